/- Law 25: walks of what its laws call, part 5: ScopeOrders, and how its input reads: each computes what the plain functions named here say. Conditions: the tables lie in memory as the views say, and are small. -/
import Derived.Test.YtdmjlimmllhhoaaGreatDoorAwk
import Derived.Test.YtdmjlimmllhhoaaGreatDoorSc4
import Derived.ProofKit
import Derived.JoinedOf
import Derived.LaidSub
import Derived.LaidMore
import Derived.OpenShut
import Derived.MakeChecks
import Derived.Lay
import Derived.Stop.Joined
import Derived.Carry
import Derived.Deep.Slices
import Derived.Deep.Strs
import Derived.Test.YtdmjlimmllhhoaaGreatDoorRows
namespace Go.Proofs.YtdmjlimmllhhoaaGreatDoor
open Go Go.RowKit
set_option maxRecDepth 100000
set_option maxHeartbeats 1000000


theorem smallB_all {l : List Tab} (h : smallB l = true) : l.length ≤ 10 ∧ ∀ j (hj : j < l.length), l[j].im.length ≤ 12 ∧ l[j].en.length ≤ 60 := by
  unfold smallB at h
  simp only [Bool.and_eq_true, Bool.not_eq_true', decide_eq_false_iff_not, Nat.not_lt, List.all_eq_true] at h
  refine ⟨h.1, fun j hj => ?_⟩
  have := h.2 _ (List.getElem_mem hj)
  unfold smallT at this
  simp only [Bool.not_eq_true', Bool.or_eq_false_iff, decide_eq_false_iff_not, Nat.not_lt] at this
  exact this

theorem ordGo_length (l : List Tab) : ∀ (f : Nat) (tk : List Bool) (out : List Nat), (ordGo l f tk out).1.length ≤ out.length + f
  | 0, tk, out => Nat.le_refl _
  | f + 1, tk, out => by
    unfold ordGo
    split
    · simp
    · have := ordGo_length l f (tk.set ‹Nat› true) (out ++ [‹Nat›])
      simp at this
      omega

theorem ordOf_length (l : List Tab) : (ordOf l).1.length ≤ l.length := by
  unfold ordOf
  split
  · simp
  · split
    · simp
    · have := ordGo_length l l.length (List.replicate l.length false) []
      simpa using this

theorem OutAt.below {w w' : World} {n : Nat} {v : Value} {xs : List Nat} (h : OutAt w v xs) (hb : Below n w w') (hn : w.heap.size ≤ n) : OutAt w' v xs := by
  obtain ⟨a, c, e, h1⟩ := h
  exact ⟨a, c, e, h1.below hb hn⟩

theorem law3 (l : List Tab) (a : Option Addr) (cap : Nat) (w : World) (hlen : l.length ≤ 9223372036854775807)
    (hz : ∀ j (hj : j < l.length), l[j].nm.size ≤ maxLen ∧ (∀ i (hi : i < l[j].im.length), l[j].im[i].size ≤ maxLen) ∧ ∀ i (hi : i < l[j].en.length), l[j].en[i].md.size ≤ maxLen) (h : TabsAt w a l) :
    Calls Tryz.prog 3 #[.slice a l.length cap] w fun e w' => e = .returned (.bool true) ∧ Below w.heap.size w w' := by
  have HT : Hid (TabsAt w a l) := h
  clear h
  go_enter Tryz.func3, Tryz.ntmps3
  go_wp2_with fail
  refine (awake_true w).mono fun e w1 ⟨he, hb1⟩ => ?_
  subst he
  go_wp2_with fail
  have hT1 := HT.out.below hb1 (Nat.le_refl _)
  refine (small6 l a cap w1 hlen hT1).mono fun e w1' ⟨he, hw⟩ => ?_
  subst he; subst hw
  cases hsm : smallB l with
  | false =>
    go_wp2_with fail
    go_ret
    exact ⟨rfl, hb1⟩
  | true =>
    obtain ⟨hl, hs⟩ := smallB_all hsm
    go_wp2_with fail
    refine (all8 l a cap _ hl hs hT1).mono fun e w2 ⟨a2, c2, he, hT2, hb2⟩ => ?_
    subst he
    go_wp2_with fail
    refine (order7 l a2 c2 w2 hl hs hz hT2).mono fun e w3 ⟨v, he, hv, hb3⟩ => ?_
    subst he
    have hb13 := hb1.trans ((hb2.trans (hb3.mono hb2.size)).mono hb1.size)
    have hs1 := hb1.size
    go_wp2_with fail
    refine (order9 l a cap w3 hl hs (HT.out.below hb13 (Nat.le_refl _))).mono fun e w4 ⟨v', he, hv', hb4⟩ => ?_
    subst he
    have hb14 := hb13.trans (hb4.mono hb13.size)
    obtain ⟨x, cx, rfl, hx⟩ := hv.below hb4 (Nat.le_refl _)
    obtain ⟨y, cy, rfl, hy⟩ := hv'
    have hC := same10 ((ordOf l).1.map Int.ofNat) x y cx cy w4 (by rw [List.length_map]; have := ordOf_length l; omega) hx hy
    rw [List.length_map] at hC
    go_wp2_with (first | (go_at_call 10; refine hC.mono ?_; rintro e w5 ⟨rfl, hb5⟩) | go_in)
    go_ret
    exact ⟨rfl, hb14.trans (hb5.mono hb14.size)⟩
end Go.Proofs.YtdmjlimmllhhoaaGreatDoor

namespace Go.Proofs.YtdmjlimmllhhoaaGreatDoor
open Go Go.ChangeShapes Go.WideShapes Go.ChangeAt Go.RowKit Go.Deep
set_option maxRecDepth 100000

theorem cells9 : Tryz.prog.cellsOf 9 = 1 := by kernel_rfl
theorem cells81 : Tryz.prog.cellsOf 81 = 5 := by kernel_rfl
theorem cells38 : Tryz.prog.cellsOf 38 = 3 := by kernel_rfl

theorem addr_lit {w : World} {a : Addr} {v : Value} (h : w.cell? (a.add 0) = some v) : ∃ b o, a = ⟨b, o, none⟩ := by
  have hs := World.cell?_spot h
  obtain ⟨b, o, sp⟩ := a
  obtain rfl : sp = none := by simpa [Addr.add] using hs
  exact ⟨b, o, rfl⟩

section
variable {H : Type} {enc : TypeId × Value → H} {w : World} {base : Nat} {held : Bool}

theorem strs_view {fuel : Nat} {v : Value} {x : DataW H × List MemPlace} (h : DataW.trod enc Tryz.prog w base (fun _ => true) held fuel 35 [v] = some x) :
    ∃ a c l, v = .slice a (List.length l) c ∧ StrsAt w a l ∧ ∀ i (hi : i < List.length l), l[i].size ≤ maxLen := by
  rcases open_strs Tryz.underlying35 Tryz.underlying9 cells9 h with ⟨e, _⟩ | ⟨a, len, cap, m, Sx, e, hb, hl, hm, hmm, _, hc⟩
  · injection e with e
    exact ⟨none, 0, [], e, fun i hi => absurd hi (Nat.not_lt_zero _), fun i hi => absurd hi (Nat.not_lt_zero _)⟩
  · injection e with e
    have hmc : len ≤ m := by simp at hmm; omega
    refine ⟨some a, cap, (List.range len).map Sx, by simpa using e, fun i hi => ?_, fun i hi => ?_⟩
    · have hi' : i < len := by simpa using hi
      obtain ⟨b, o, rfl⟩ := addr_lit (hc 0 (by omega)).1
      refine ⟨b, o, rfl, ?_⟩
      have := (hc i (by omega)).1
      rw [Addr.add_lit] at this
      simpa using this
    · have hi' : i < len := by simpa using hi
      have := (hc i (by omega)).2
      simpa using this

theorem one_of {cs : List Value} {n j : Nat} (hl : cs.length = n) (hj : j < n) : ∃ v, (cs.drop j).take 1 = [v] ∧ cs[j]? = some v := by
  refine ⟨cs[j]'(by omega), ?_, List.getElem?_eq_getElem (by omega)⟩
  rw [List.drop_eq_getElem_cons (by omega)]; rfl

theorem ent_view {fuel : Nat} {cs : List Value} {x : DataW H × List MemPlace} (h : DataW.trod enc Tryz.prog w base (fun _ => true) held fuel 81 cs = some x) :
    ∃ e : Ent, cs.length = 5 ∧ cs[0]? = some (.int .i64 e.k) ∧ cs[1]? = some (.string e.nm) ∧ cs[2]? = some (.string e.md) ∧ cs[3]? = some (.int .i64 e.lf) ∧ cs[4]? = some (.int .i64 e.tg) ∧ e.md.size ≤ maxLen := by
  obtain ⟨xs, n, _, _, hl, hlen, hf⟩ := DataW.trod_struct Tryz.underlying81 h
  rw [cells81] at hl
  have hlen5 : xs.length = 5 := hlen
  have get : ∀ j, j < 5 → ∃ y, xs[j]? = some y := fun j hj => ⟨_, List.getElem?_eq_getElem (by omega)⟩
  have c3 : Tryz.prog.cellsOf 3 = 1 := by kernel_rfl
  have int : ∀ j, j < 5 → (∃ f, (#[{ name := "Kind", type := 3, offset := 0, embedded := false, tag := "", pkgPath := "", byteOffset := 0 }, { name := "Name", type := 9, offset := 1, embedded := false, tag := "", pkgPath := "", byteOffset := 8 }, { name := "Module", type := 9, offset := 2, embedded := false, tag := "", pkgPath := "", byteOffset := 24 }, { name := "Leaf", type := 3, offset := 3, embedded := false, tag := "", pkgPath := "", byteOffset := 40 }, { name := "Target", type := 3, offset := 4, embedded := false, tag := "", pkgPath := "", byteOffset := 48 }] : Array Field)[j]? = some f ∧ f.type = 3 ∧ f.offset = j) → ∃ n, cs[j]? = some (.int .i64 n) := by
    rintro j hj ⟨f, h1, h2, h3⟩
    obtain ⟨y, hy⟩ := get j hj
    have := hf j f h1
    rw [h2, h3, c3, hy] at this
    obtain ⟨v, e1, e2⟩ := one_of hl hj
    rw [e1] at this
    obtain ⟨k, e3, _⟩ := DataW.trod_int Tryz.underlying3 this
    injection e3 with e3
    exact ⟨k, by rw [e2, e3]⟩
  have str : ∀ j, j < 5 → (∃ f, (#[{ name := "Kind", type := 3, offset := 0, embedded := false, tag := "", pkgPath := "", byteOffset := 0 }, { name := "Name", type := 9, offset := 1, embedded := false, tag := "", pkgPath := "", byteOffset := 8 }, { name := "Module", type := 9, offset := 2, embedded := false, tag := "", pkgPath := "", byteOffset := 24 }, { name := "Leaf", type := 3, offset := 3, embedded := false, tag := "", pkgPath := "", byteOffset := 40 }, { name := "Target", type := 3, offset := 4, embedded := false, tag := "", pkgPath := "", byteOffset := 48 }] : Array Field)[j]? = some f ∧ f.type = 9 ∧ f.offset = j) → ∃ s, cs[j]? = some (.string s) ∧ s.size ≤ maxLen := by
    rintro j hj ⟨f, h1, h2, h3⟩
    obtain ⟨y, hy⟩ := get j hj
    have := hf j f h1
    rw [h2, h3, cells9, hy] at this
    obtain ⟨v, e1, e2⟩ := one_of hl hj
    rw [e1] at this
    obtain ⟨k, e3, _, e4⟩ := DataW.trod_string Tryz.underlying9 this
    injection e3 with e3
    exact ⟨k, by rw [e2, e3], e4⟩
  obtain ⟨n0, h0⟩ := int 0 (by omega) ⟨_, rfl, rfl, rfl⟩
  obtain ⟨s1, h1, _⟩ := str 1 (by omega) ⟨_, rfl, rfl, rfl⟩
  obtain ⟨s2, h2, g2⟩ := str 2 (by omega) ⟨_, rfl, rfl, rfl⟩
  obtain ⟨n3, h3⟩ := int 3 (by omega) ⟨_, rfl, rfl, rfl⟩
  obtain ⟨n4, h4⟩ := int 4 (by omega) ⟨_, rfl, rfl, rfl⟩
  exact ⟨⟨n0, s1, s2, n3, n4⟩, hl, h0, h1, h2, h3, h4, g2⟩

theorem ents_view {fuel : Nat} {v : Value} {x : DataW H × List MemPlace} (h : DataW.trod enc Tryz.prog w base (fun _ => true) held fuel 36 [v] = some x) :
    ∃ a c l, v = .slice a (List.length l) c ∧ EntsAt w a l ∧ ∀ i (hi : i < List.length l), l[i].md.size ≤ maxLen := by
  rcases open_slice Tryz.underlying36 h with ⟨e, _⟩ | ⟨a, len, cap, m, n, D, Pl, e, hb, hl, hm, hmm, _, hc⟩
  · injection e with e
    exact ⟨none, 0, [], e, fun i hi => absurd hi (Nat.not_lt_zero _), fun i hi => absurd hi (Nat.not_lt_zero _)⟩
  · injection e with e
    have hmc : len ≤ m := by simp at hmm; omega
    rw [cells81] at hc
    have each : ∀ i, i < len → ∃ e : Ent, w.cell? (a.add (i * 5)) = some (.int .i64 e.k) ∧ w.cell? ((a.add (i * 5)).add 1) = some (.string e.nm) ∧ w.cell? ((a.add (i * 5)).add 2) = some (.string e.md) ∧
        w.cell? ((a.add (i * 5)).add 3) = some (.int .i64 e.lf) ∧ w.cell? ((a.add (i * 5)).add 4) = some (.int .i64 e.tg) ∧ e.md.size ≤ maxLen := by
      intro i hi
      obtain ⟨cs, h1, h2⟩ := hc i (by omega)
      obtain ⟨e, _, e0, e1, e2, e3, e4, e5⟩ := ent_view h2
      obtain ⟨_, _, hcell⟩ := World.cells?_some h1
      have g0 := hcell 0 (by omega)
      rw [Addr.add_zero'] at g0
      exact ⟨e, g0.trans e0, (hcell 1 (by omega)).trans e1, (hcell 2 (by omega)).trans e2, (hcell 3 (by omega)).trans e3, (hcell 4 (by omega)).trans e4, e5⟩
    obtain ⟨E, hE⟩ : ∃ E : Nat → Ent, ∀ i, i < len → w.cell? (a.add (i * 5)) = some (.int .i64 (E i).k) ∧ w.cell? ((a.add (i * 5)).add 1) = some (.string (E i).nm) ∧ w.cell? ((a.add (i * 5)).add 2) = some (.string (E i).md) ∧
        w.cell? ((a.add (i * 5)).add 3) = some (.int .i64 (E i).lf) ∧ w.cell? ((a.add (i * 5)).add 4) = some (.int .i64 (E i).tg) ∧ (E i).md.size ≤ maxLen :=
      ⟨fun i => if hi : i < len then Classical.choose (each i hi) else ⟨0, .empty, .empty, 0, 0⟩, fun i hi => by
        simp only [dif_pos hi]; exact Classical.choose_spec (each i hi)⟩
    refine ⟨some a, cap, (List.range len).map E, by simpa using e, fun i hi => ?_, fun i hi => ?_⟩
    · have hi' : i < len := by simpa using hi
      have h00 := (hE 0 (by omega)).1
      rw [Nat.zero_mul] at h00
      obtain ⟨b, o, rfl⟩ := addr_lit h00
      refine ⟨b, o, rfl, ?_⟩
      have := hE i hi'
      simp only [Addr.add_lit] at this
      simp only [List.getElem_map, List.getElem_range]
      exact ⟨this.1, this.2.1, this.2.2.1, this.2.2.2.1, this.2.2.2.2.1⟩
    · have hi' : i < len := by simpa using hi
      have := (hE i hi').2.2.2.2.2
      simpa using this

end
end Go.Proofs.YtdmjlimmllhhoaaGreatDoor

namespace Go.Proofs.YtdmjlimmllhhoaaGreatDoor
open Go Go.ChangeShapes Go.WideShapes Go.ChangeAt Go.RowKit Go.Deep
set_option maxRecDepth 100000

section
variable {H : Type} {enc : TypeId × Value → H} {w : World} {base : Nat} {held : Bool}

theorem tab_view {fuel : Nat} {cs : List Value} {x : DataW H × List MemPlace} (h : DataW.trod enc Tryz.prog w base (fun _ => true) held fuel 38 cs = some x) :
    ∃ t : Tab, ∃ a1 c1 a2 c2, cs.length = 3 ∧ cs[0]? = some (.string t.nm) ∧ cs[1]? = some (.slice a1 t.im.length c1) ∧ StrsAt w a1 t.im ∧ cs[2]? = some (.slice a2 t.en.length c2) ∧ EntsAt w a2 t.en ∧
      t.nm.size ≤ maxLen ∧ (∀ i (hi : i < t.im.length), t.im[i].size ≤ maxLen) ∧ ∀ i (hi : i < t.en.length), t.en[i].md.size ≤ maxLen := by
  obtain ⟨y0, y1, y2, n, _, hl, h0, h1, h2⟩ := trod_struct3 Tryz.underlying38 h
  rw [cells38] at hl
  have c35 : Tryz.prog.cellsOf 35 = 1 := by kernel_rfl
  have c36 : Tryz.prog.cellsOf 36 = 1 := by kernel_rfl
  simp only [cells9, c35, c36] at h0 h1 h2
  obtain ⟨v0, e0, g0⟩ := one_of hl (show 0 < 3 by omega)
  obtain ⟨v1, e1, g1⟩ := one_of hl (show 1 < 3 by omega)
  obtain ⟨v2, e2, g2⟩ := one_of hl (show 2 < 3 by omega)
  rw [e0] at h0; rw [e1] at h1; rw [e2] at h2
  obtain ⟨s, q0, _, q1⟩ := DataW.trod_string Tryz.underlying9 h0
  injection q0 with q0
  obtain ⟨a1, c1, l1, rfl, k1, k2⟩ := strs_view h1
  obtain ⟨a2, c2, l2, rfl, k3, k4⟩ := ents_view h2
  exact ⟨⟨s, l1, l2⟩, a1, c1, a2, c2, hl, by rw [g0, q0], g1, k1, g2, k3, q1, k2, k4⟩

theorem tabs_view {v : Value} {d : DataW H} {p : List MemPlace} (h : DataW.Trod enc Tryz.prog w base (fun _ => true) held 22 v d p) (hv : ∃ a len cap, v = .slice a len cap) :
    ∃ a c l, v = .slice a (List.length l) c ∧ TabsAt w a l ∧ List.length l ≤ maxLen ∧ ∀ j (hj : j < List.length l), l[j].nm.size ≤ maxLen ∧ (∀ i (hi : i < l[j].im.length), l[j].im[i].size ≤ maxLen) ∧ ∀ i (hi : i < l[j].en.length), l[j].en[i].md.size ≤ maxLen := by
  obtain ⟨a0, len0, cap0, rfl⟩ := hv
  obtain ⟨fuel, hf⟩ := h
  have hf' : DataW.trod enc Tryz.prog w base (fun _ => true) held fuel 22 [.slice a0 len0 cap0] = some (d, p) := hf
  rcases open_slice Tryz.underlying22 hf' with ⟨e, _⟩ | ⟨a, len, cap, m, n, D, Pl, e, hb, hl, hm, hmm, _, hc⟩
  · injection e with e
    exact ⟨none, 0, [], e, fun i hi => absurd hi (Nat.not_lt_zero _), by simp, fun i hi => absurd hi (Nat.not_lt_zero _)⟩
  · injection e with e
    have hmc : len ≤ m := by simp at hmm; omega
    rw [cells38] at hc
    have each : ∀ i, i < len → ∃ t : Tab, ∃ a1 c1 a2 c2, w.cell? (a.add (i * 3)) = some (.string t.nm) ∧ w.cell? ((a.add (i * 3)).add 1) = some (.slice a1 t.im.length c1) ∧ StrsAt w a1 t.im ∧
        w.cell? ((a.add (i * 3)).add 2) = some (.slice a2 t.en.length c2) ∧ EntsAt w a2 t.en ∧ t.nm.size ≤ maxLen ∧ (∀ i (hi : i < t.im.length), t.im[i].size ≤ maxLen) ∧ ∀ i (hi : i < t.en.length), t.en[i].md.size ≤ maxLen := by
      intro i hi
      obtain ⟨cs, h1, h2⟩ := hc i (by omega)
      obtain ⟨t, a1, c1, a2, c2, _, e0, e1, e2, e3, e4, e5⟩ := tab_view h2
      obtain ⟨_, _, hcell⟩ := World.cells?_some h1
      have g0 := hcell 0 (by omega)
      rw [Addr.add_zero'] at g0
      exact ⟨t, a1, c1, a2, c2, g0.trans e0, (hcell 1 (by omega)).trans e1, e2, (hcell 2 (by omega)).trans e3, e4, e5⟩
    obtain ⟨E, hE⟩ : ∃ E : Nat → Tab, ∀ i, i < len → ∃ a1 c1 a2 c2, w.cell? (a.add (i * 3)) = some (.string (E i).nm) ∧ w.cell? ((a.add (i * 3)).add 1) = some (.slice a1 (E i).im.length c1) ∧ StrsAt w a1 (E i).im ∧
        w.cell? ((a.add (i * 3)).add 2) = some (.slice a2 (E i).en.length c2) ∧ EntsAt w a2 (E i).en ∧ (E i).nm.size ≤ maxLen ∧ (∀ j (hi : j < (E i).im.length), (E i).im[j].size ≤ maxLen) ∧ ∀ j (hi : j < (E i).en.length), (E i).en[j].md.size ≤ maxLen :=
      ⟨fun i => if hi : i < len then Classical.choose (each i hi) else noTab, fun i hi => by
        simp only [dif_pos hi]; exact Classical.choose_spec (each i hi)⟩
    refine ⟨some a, cap, (List.range len).map E, by rw [e]; simp, fun i hi => ?_, by simp; omega, fun i hi => ?_⟩
    · have hi' : i < len := by simpa using hi
      obtain ⟨_, _, _, _, h00, _⟩ := hE 0 (by omega)
      rw [Nat.zero_mul] at h00
      obtain ⟨b, o, rfl⟩ := addr_lit h00
      obtain ⟨a1, c1, a2, c2, h1, h2, h3, h4, h5, _⟩ := hE i hi'
      simp only [Addr.add_lit] at h1 h2 h4
      simp only [List.getElem_map, List.getElem_range]
      exact ⟨b, o, a1, c1, a2, c2, rfl, h1, h2, h3, h4, h5⟩
    · have hi' : i < len := by simpa using hi
      obtain ⟨a1, c1, a2, c2, h1, h2, h3, h4, h5, h6⟩ := hE i hi'
      simp only [List.getElem_map, List.getElem_range]
      exact h6

end
end Go.Proofs.YtdmjlimmllhhoaaGreatDoor

