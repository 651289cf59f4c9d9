/- Law 25: walks of what its laws call, part 3: maps of names, and the closures that Order hands over: each computes what the plain functions named here say. Conditions: the tables lie in memory as the views say, and are small. -/
import Derived.Test.YtdmjlimmllhhoaaGreatDoorSc2
import Derived.Maps.OwnSet
import Derived.Laws.Strings
namespace Go.Proofs.YtdmjlimmllhhoaaGreatDoor
open Go Go.RowKit Go.Maps
set_option maxRecDepth 100000
set_option maxHeartbeats 1000000

def klS (s : ByteArray) : Lit := .string s.data.toList

/- The map of the first tables' names. -/
def mapD (l : List Tab) : Nat → DataW Unit
  | 0 => .map []
  | k + 1 => (mapD l k).put (klS (tabAt l k).nm) (.lit (.int .i64 k))

theorem mapD_map (l : List Tab) : ∀ k, IsMap (mapD l k)
  | 0 => isMap_empty
  | k + 1 => (mapD_map l k).put _ _

theorem klS_key (s : ByteArray) : WideAt.IsKeyLit (klS s) := by unfold klS; trivial

theorem klS_eq {a b : ByteArray} : klS a = klS b ↔ (a.toList == b.toList) = true := by
  unfold klS
  rw [beq_iff_eq, ByteArray.toList_eq, ByteArray.toList_eq]
  constructor
  · intro h; injection h
  · intro h; rw [h]

theorem ixOf_at {l : List Tab} {s : ByteArray} {j : Nat} (h : ixOf l s = some j) : ((tabAt l j).nm.toList == s.toList) = true := by
  have hj := ixOf_lt h
  unfold ixOf at h
  rw [List.findIdx?_eq_some_iff_getElem] at h
  rw [tabAt_eq hj]; exact h.2.1

theorem ixOf_le {l : List Tab} {s : ByteArray} {k : Nat} (hk : k < l.length) (h : ((tabAt l k).nm.toList == s.toList) = true) : ∃ j, ixOf l s = some j ∧ j ≤ k := by
  cases hq : ixOf l s with
  | none =>
    unfold ixOf at hq
    rw [List.findIdx?_eq_none_iff] at hq
    have := hq l[k] (List.getElem_mem hk)
    rw [tabAt_eq hk] at h
    rw [this] at h; cases h
  | some j =>
    refine ⟨j, rfl, ?_⟩
    unfold ixOf at hq
    rw [List.findIdx?_eq_some_iff_getElem] at hq
    obtain ⟨hj, h1, h2⟩ := hq
    rcases Nat.lt_or_ge k j with q | q
    · have := h2 k q
      rw [tabAt_eq hk] at h
      rw [h] at this; simp at this
    · exact q

theorem mapD_has {l : List Tab} {s : ByteArray} : ∀ {k : Nat}, k ≤ l.length → Maps.has (mapD l k) (klS s) = (match ixOf l s with | some j => decide (j < k) | none => false) := by
  intro k
  induction k with
  | zero => intro _; show false = _; cases ixOf l s <;> simp
  | succ k ih =>
    intro hk
    by_cases e : klS s = klS (tabAt l k).nm
    · rw [mapD, e, has_put_same (mapD_map l k) (klS_key _)]
      obtain ⟨j, h1, h2⟩ := ixOf_le (show k < l.length by omega) (klS_eq.1 e.symm)
      rw [h1]; simp; omega
    · rw [mapD, has_put_other e, ih (by omega)]
      cases hq : ixOf l s with
      | none => rfl
      | some j =>
        have : j ≠ k := by
          intro c; subst c
          exact e (klS_eq.2 (ixOf_at hq)).symm
        simp only [decide_eq_decide]; omega

theorem dupB_false {l : List Tab} {k j : Nat} (hk : k < l.length) (h : dupB l k = false) (hj : ixOf l (tabAt l k).nm = some j) : j = k := by
  obtain ⟨j', h1, h2⟩ := ixOf_le hk (s := (tabAt l k).nm) (by simp)
  rw [hj] at h1; cases h1
  unfold dupB at h
  rw [findI_some hj] at h
  simp at h; omega

theorem ixOf_congr {l : List Tab} {a b : ByteArray} (h : (a.toList == b.toList) = true) : ixOf l a = ixOf l b := by
  unfold ixOf
  rw [eq_of_beq h]

theorem mapD_at {l : List Tab} {s : ByteArray} {j : Nat} (hj : ixOf l s = some j) (z : DataW Unit) : ∀ {k : Nat}, k ≤ l.length → (∀ i, i < k → dupB l i = false) → j < k → (mapD l k).atKey (klS s) z = .lit (.int .i64 j) := by
  intro k
  induction k with
  | zero => intro _ _ h; omega
  | succ k ih =>
    intro hk hd hlt
    by_cases e : klS s = klS (tabAt l k).nm
    · rw [mapD, e, atKey_put_same (mapD_map l k) (klS_key _)]
      have h1 : ixOf l (tabAt l k).nm = some j := by rw [ixOf_congr (klS_eq.1 e.symm)]; exact hj
      rw [dupB_false (by omega) (hd k (by omega)) h1]
    · rw [mapD, atKey_put_other e]
      have : j ≠ k := by
        intro c; subst c
        exact e (klS_eq.2 (ixOf_at hj)).symm
      exact ih (by omega) (fun i hi => hd i (by omega)) (by omega)

theorem owns_map_below {w w' : World} {b n m : Nat} {D : DataW Unit} (h : w.ownsMap Tryz.prog 9 (plainElem Tryz.prog 3) b n D) (hb : Below m w w') (hm : w.heap.size ≤ m) : w'.ownsMap Tryz.prog 9 (plainElem Tryz.prog 3) b n D :=
  h.kept (row := none) ⟨hb.os, hb.tape, hb.output, hb.size, fun q hq _ => hb.block q (Nat.lt_of_lt_of_le hq hm)⟩ (by simp)

end Go.Proofs.YtdmjlimmllhhoaaGreatDoor

namespace Go.Proofs.YtdmjlimmllhhoaaGreatDoor
open Go Go.RowKit Go.Maps Go.WideMaps
set_option maxRecDepth 100000
set_option maxHeartbeats 1000000

theorem law9 : Keyed Tryz.prog 9 := string_keyed Tryz.underlying9
theorem zero3 (w : World) : (zeroValue 3).run Tryz.prog w = .ok (.int .i64 0) w := by kernel_rfl

theorem index18 (tk : List Bool) (b cap : Nat) (w : World) (hl : tk.length ≤ 10) (hc : ∀ j, j < tk.length → w.cell? ⟨b, j, none⟩ = some (.bool (tk.getD j false))) :
    Calls Tryz.prog 18 #[.slice (some ⟨b, 0, none⟩) tk.length cap, .bool false] w fun e w' => e = .returned (.int .i64 (optI ((List.range tk.length).find? (untB tk)))) ∧ w' = w := by
  go_enter Tryz.func18, Tryz.ntmps18
  have HC : Hid (∀ j, j < tk.length → w.cell? ⟨b, j, none⟩ = some (.bool (tk.getD j false))) := hc
  clear hc
  go_wp2
  go_loop [8] (fun q => ∃ k : Nat, k ≤ tk.length ∧ q = .int .i64 k ∧ ∀ j, j < k → untB tk j = false)
    (fun q => tk.length - (intOf q).toNat)
  case atStart => exact ⟨0, Nat.zero_le _, rfl, fun j hj => absurd hj (Nat.not_lt_zero _)⟩
  case round =>
    obtain ⟨k, hk, rfl, hn⟩ := hrel
    by_cases hk2 : k < tk.length
    · have hcc := HC.out k hk2
      cases hb : tk.getD k false with
      | true =>
        rw [hb] at hcc
        go_wp2
        go_round
        case rel => exact ⟨k + 1, by omega, by go_num, fun j hj => by
          rcases Nat.lt_succ_iff_lt_or_eq.1 hj with q | q
          · exact hn j q
          · subst q; unfold untB; rw [hb]; rfl⟩
        case measure => simp [intOf]; omega
      | false =>
        rw [hb] at hcc
        have he := find_some hk2 (show untB tk k = true by unfold untB; rw [hb]; rfl) hn
        go_wp2
        go_ret
        exact ⟨rfl, rfl⟩
    · have he := find_none (n := tk.length) fun j hj => hn j (by omega)
      go_wp2
      go_ret
      exact ⟨rfl, rfl⟩

theorem ready17 (l : List Tab) (tk : List Bool) (m : ByteArray) (j : Nat) (p20 p5 bs bm : Nat) (w : World) (ht : tk.length = l.length) (hj : ixOf l m = some j) (hm : m.size ≤ maxLen) (hd : ∀ i, i < l.length → dupB l i = false)
    (h1 : w.cell? ⟨p20, 0, none⟩ = some (.slice (some ⟨bs, 0, none⟩) l.length l.length)) (h2 : w.cell? ⟨p5, 0, none⟩ = some (.map (some bm))) (hown : w.ownsMap Tryz.prog 9 (plainElem Tryz.prog 3) bm l.length (mapD l l.length))
    (hc : ∀ j, j < l.length → w.cell? ⟨bs, j, none⟩ = some (.bool (tk.getD j false))) :
    Calls Tryz.prog 17 #[.string m, .pointer (some ⟨p20, 0, none⟩), .pointer (some ⟨p5, 0, none⟩)] w fun e w' => e = .returned (.bool (!(tk.getD j false))) ∧ w' = w := by
  have hkey := keyOf_string_mk (P := Tryz.prog) Tryz.underlying9 hm
  have hj2 := ixOf_lt hj
  have hcj := hc j hj2
  have hat0 := mapD_at hj (.lit (.int .i64 0)) (Nat.le_refl _) hd hj2
  go_enter Tryz.func17, Tryz.ntmps17
  go_wp2_with (first | (at_lookup; refine wpList_lookup_own_int _ rfl _ _ 56 rfl 9 3 .i64 law9 Tryz.underlying56 Tryz.underlying3 (zero3 _) bm l.length (mapD l l.length) rfl hown _ _ rfl hkey ?_; intro c hat hwc; obtain rfl : c = (j : Int) := by (have e := hat.symm.trans hat0; injection e with e; injection e)) | go_in)
  go_ret
  exact ⟨by rw [List.getD_eq_getElem?_getD, List.getElem?_eq_getElem (by omega)]; rfl, rfl⟩

theorem tkB_some {l : List Tab} {tk : List Bool} {m : ByteArray} {j : Nat} (h : ixOf l m = some j) : tkB l tk m = tk.getD j false := by unfold tkB; rw [h]

theorem indexF28 (l : List Tab) (tk : List Bool) (im : List ByteArray) (a : Option Addr) (cap : Nat) (p20 p5 bs bm : Nat) (w : World) (ht : tk.length = l.length) (hi : im.length ≤ 12) (hn : ∀ i (h : i < im.length), ∃ j, ixOf l im[i] = some j)
    (hm : ∀ i (h : i < im.length), im[i].size ≤ maxLen) (hd : ∀ i, i < l.length → dupB l i = false) (hs : StrsAt w a im)
    (h1 : w.cell? ⟨p20, 0, none⟩ = some (.slice (some ⟨bs, 0, none⟩) l.length l.length)) (h2 : w.cell? ⟨p5, 0, none⟩ = some (.map (some bm))) (hown : w.ownsMap Tryz.prog 9 (plainElem Tryz.prog 3) bm l.length (mapD l l.length))
    (hc : ∀ j, j < l.length → w.cell? ⟨bs, j, none⟩ = some (.bool (tk.getD j false))) :
    Calls Tryz.prog 28 #[.slice a im.length cap, .func (.func 17) #[] #[.pointer (some ⟨p20, 0, none⟩), .pointer (some ⟨p5, 0, none⟩)]] w fun e w' => ∃ r, e = .returned (.int .i64 r) ∧ (decide (0 ≤ r)) = !(im.all (tkB l tk)) ∧ w' = w := by
  have H17 : Hid (∀ i (h : i < im.length) j, ixOf l im[i] = some j → Calls Tryz.prog 17 #[.string im[i], .pointer (some ⟨p20, 0, none⟩), .pointer (some ⟨p5, 0, none⟩)] w fun e w' => e = .returned (.bool (!(tk.getD j false))) ∧ w' = w) :=
    fun i h j hj => ready17 l tk im[i] j p20 p5 bs bm w ht hj (hm i h) hd h1 h2 hown hc
  clear h1 h2 hown hc hm hd
  have HN : Hid (∀ i (h : i < im.length), ∃ j, ixOf l im[i] = some j) := hn
  clear hn
  go_enter Tryz.func28, Tryz.ntmps28
  go_wp2
  go_loop [8] (fun q => ∃ k : Nat, k ≤ im.length ∧ q = .int .i64 k ∧ ∀ i (h : i < im.length), i < k → tkB l tk im[i] = true)
    (fun q => im.length - (intOf q).toNat)
  case atStart => exact ⟨0, Nat.zero_le _, rfl, fun i h hi => absurd hi (Nat.not_lt_zero _)⟩
  case round =>
    obtain ⟨k, hk, rfl, hr⟩ := hrel
    by_cases hk2 : k < im.length
    · obtain ⟨b, o, rfl, g1⟩ := hs k hk2
      obtain ⟨j, hj⟩ := HN.out k hk2
      have hC := H17.out k hk2 j hj
      have htk : tkB l tk im[k] = tk.getD j false := tkB_some hj
      clear hs
      cases hb : tk.getD j false with
      | true =>
        rw [hb] at hC htk
        go_wp2_with (first | (go_at_call 17; refine hC.mono ?_; rintro e w' ⟨rfl, rfl⟩) | go_in)
        go_round
        case rel => exact ⟨k + 1, by omega, by go_num, fun i h hi => by
          rcases Nat.lt_succ_iff_lt_or_eq.1 hi with q | q
          · exact hr i h q
          · subst q; exact htk⟩
        case measure => simp [intOf]; omega
      | false =>
        rw [hb] at hC htk
        have hall : im.all (tkB l tk) = false := by
          rw [List.all_eq_false]
          exact ⟨_, List.getElem_mem hk2, by rw [htk]; simp⟩
        go_wp2_with (first | (go_at_call 17; refine hC.mono ?_; rintro e w' ⟨rfl, rfl⟩) | go_in)
        go_ret
        exact ⟨_, rfl, by first | (simp [hall]; done) | simp, rfl⟩
    · have hall : im.all (tkB l tk) = true := by
        rw [List.all_eq_true]
        intro x hx
        obtain ⟨i, hi2, rfl⟩ := List.getElem_of_mem hx
        exact hr i hi2 (by omega)
      go_wp2
      go_ret
      exact ⟨_, rfl, by first | decide | (simp [hall]; done), rfl⟩

theorem containsF16 (l : List Tab) (tk : List Bool) (im : List ByteArray) (a : Option Addr) (cap : Nat) (p20 p5 bs bm : Nat) (w : World) (ht : tk.length = l.length) (hi : im.length ≤ 12) (hn : ∀ i (h : i < im.length), ∃ j, ixOf l im[i] = some j)
    (hm : ∀ i (h : i < im.length), im[i].size ≤ maxLen) (hd : ∀ i, i < l.length → dupB l i = false) (hs : StrsAt w a im)
    (h1 : w.cell? ⟨p20, 0, none⟩ = some (.slice (some ⟨bs, 0, none⟩) l.length l.length)) (h2 : w.cell? ⟨p5, 0, none⟩ = some (.map (some bm))) (hown : w.ownsMap Tryz.prog 9 (plainElem Tryz.prog 3) bm l.length (mapD l l.length))
    (hc : ∀ j, j < l.length → w.cell? ⟨bs, j, none⟩ = some (.bool (tk.getD j false))) :
    Calls Tryz.prog 16 #[.slice a im.length cap, .func (.func 17) #[] #[.pointer (some ⟨p20, 0, none⟩), .pointer (some ⟨p5, 0, none⟩)]] w fun e w' => e = .returned (.bool (!(im.all (tkB l tk)))) ∧ w' = w := by
  have hC := indexF28 l tk im a cap p20 p5 bs bm w ht hi hn hm hd hs h1 h2 hown hc
  clear hs h1 h2 hown hc hn hm hd
  go_enter Tryz.func16, Tryz.ntmps16
  go_wp2_with (first | (go_at_call 28; refine hC.mono ?_; rintro e w' ⟨r, rfl, hr, rfl⟩) | go_in)
  all_goals go_ret
  all_goals exact ⟨by rw [← hr]; rfl, rfl⟩

def hitE (s : ByteArray) (e : Ent) : Bool := e.k == 3 && e.nm.toList == s.toList

theorem round_end2 {w wr w4 : World} {B Bt c i1 n : Nat} {v v' : Value} {tk : List Bool} {out : List Nat} {X : Obj} (hc : Bt < c)
    (HO : wr.ownsRow c 3 1 v out.length ((out.map Int.ofNat).map (Value.int .i64))) (HK : wr.ownsRow Bt 4 1 (.slice (some ⟨Bt, 0, none⟩) n n) n (tk.map Value.bool))
    (h4 : w4.ownsRow c 3 1 v' (out.length + 1) ((out.map Int.ofNat).map (Value.int .i64) ++ [.int .i64 (i1 : Int)])) (hg : ((wr.setCell ⟨Bt, i1, none⟩ (.bool true)).alloc X).grownBy w4 v.ownBlock)
    (hb : Below B w wr) (hB : B ≤ Bt) (hs : c ≤ wr.heap.size) :
    w4.ownsRow c 3 1 v' (out ++ [i1]).length (((out ++ [i1]).map Int.ofNat).map (Value.int .i64)) ∧
      w4.ownsRow Bt 4 1 (.slice (some ⟨Bt, 0, none⟩) n n) n ((tk.set i1 true).map Value.bool) ∧ Below B w w4 ∧ c ≤ w4.heap.size ∧ ∀ p o u, Bt < p → p < c → wr.cell? ⟨p, o, none⟩ = some u → w4.cell? ⟨p, o, none⟩ = some u := by
  have hst := HK.stored i1 (.bool true)
  have hlt := HO.lt
  refine ⟨by simpa using h4, ?_, ?_, ?_, fun p o u hp1 hp2 hu => ?_⟩
  · rw [List.map_set]
    refine (hst.1.alloc X).kept hg (.inr ?_)
    show some Bt ≠ v.ownBlock
    intro e
    have := (hlt Bt e.symm).1
    omega
  · refine ((hb.setCell (p := ⟨Bt, i1, none⟩) hB _).alloc ?_ X).grown hg ?_ ?_
    · simp only [World.size_setCell]; omega
    · simp only [World.size_alloc, World.size_setCell]; omega
    · intro k hk
      have := (hlt k hk).1
      omega
  · have := hg.size
    simp only [World.size_alloc, World.size_setCell] at this
    omega
  · refine hg.cell (a := ⟨p, o, none⟩) ?_ fun e => ?_
    · rw [World.cell?_alloc_past _ _ _ (by simp only [World.size_setCell]; omega), World.cell?_setCell_other _ _ _ _ (by simp <;> omega)]
      exact hu
    · have := (hlt p e.symm).1
      omega

theorem entry15 (en : Ent) (s : ByteArray) (p : Nat) (w : World) (h : w.cell? ⟨p, 0, none⟩ = some (.string s)) :
    Calls Tryz.prog 15 #[.agg #[.int .i64 en.k, .string en.nm, .string en.md, .int .i64 en.lf, .int .i64 en.tg], .pointer (some ⟨p, 0, none⟩)] w fun e w' => e = .returned (.bool (hitE s en)) ∧ Below w.heap.size w w' := by
  have hp := cell_lt h
  have h' : (w.alloc (Obj.cells #[.int .i64 en.k, .string en.nm, .string en.md, .int .i64 en.lf, .int .i64 en.tg] 50)).cell? ⟨p, 0, none⟩ = some (.string s) := by
    rw [World.cell?_alloc_past _ _ _ hp]; exact h
  go_enter Tryz.func15, Tryz.ntmps15
  have hB : Below w.heap.size w (w.alloc (Obj.cells #[.int .i64 en.k, .string en.nm, .string en.md, .int .i64 en.lf, .int .i64 en.tg] 50)) := (Below.refl _ _).alloc (Nat.le_refl _) _
  by_cases q : en.k = 3
  · have e1 : hitE s en = (en.nm.toList == s.toList) := by unfold hitE; rw [q]; rfl
    rw [q] at hB
    go_wp2
    go_ret
    exact ⟨by rw [e1]; rfl, hB⟩
  · have e1 : hitE s en = false := by unfold hitE; simp [q]
    go_wp2
    go_ret
    exact ⟨by rw [e1]; rfl, hB⟩

theorem indexE27 (en : List Ent) (s : ByteArray) (a : Option Addr) (cap p : Nat) (w : World) (hl : en.length ≤ 60) (hs : EntsAt w a en) (h : w.cell? ⟨p, 0, none⟩ = some (.string s)) :
    Calls Tryz.prog 27 #[.slice a en.length cap, .func (.func 15) #[] #[.pointer (some ⟨p, 0, none⟩)]] w fun e w' => ∃ r, e = .returned (.int .i64 r) ∧ (decide (0 ≤ r)) = en.any (hitE s) ∧ Below w.heap.size w w' := by
  have HE : Hid (EntsAt w a en) := hs
  have HP : Hid (w.cell? ⟨p, 0, none⟩ = some (.string s)) := h
  clear hs h
  go_enter Tryz.func27, Tryz.ntmps27
  go_wp2
  go_loopw [8] (fun q wr => ∃ k : Nat, k ≤ en.length ∧ q = .int .i64 k ∧ (∀ i (h : i < en.length), i < k → hitE s en[i] = false) ∧ Below w.heap.size w wr)
    (fun q _ => en.length - (intOf q).toNat)
  case atStart => exact ⟨0, Nat.zero_le _, rfl, fun i h hi => absurd hi (Nat.not_lt_zero _), Below.refl _ _⟩
  case round =>
    obtain ⟨k, hk, rfl, hr, hb⟩ := hrel
    have hsz := hb.size
    by_cases hk2 : k < en.length
    · obtain ⟨b, o, rfl, g1, g2, g3, g4, g5⟩ := HE.out.below hb (Nat.le_refl _) k hk2
      have hC := entry15 en[k] s p wr (cell_below hb (Nat.le_refl _) HP.out)
      cases hq : hitE s en[k] with
      | true =>
        rw [hq] at hC
        have hall : en.any (hitE s) = true := by
          rw [List.any_eq_true]
          exact ⟨_, List.getElem_mem hk2, hq⟩
        go_wp2_with (first | (go_at_call 15; refine hC.mono ?_; rintro e w' ⟨rfl, hb2⟩) | go_in)
        go_ret
        exact ⟨_, rfl, by first | (simp [hall]; done) | simp, hb.trans (hb2.mono hsz)⟩
      | false =>
        rw [hq] at hC
        go_wp2_with (first | (go_at_call 15; refine hC.mono ?_; rintro e w' ⟨rfl, hb2⟩) | go_in)
        go_roundw
        case rel => exact ⟨k + 1, by omega, by go_num, fun i h hi => by
          rcases Nat.lt_succ_iff_lt_or_eq.1 hi with q | q
          · exact hr i h q
          · subst q; exact hq, hb.trans (hb2.mono hsz)⟩
        case measure => simp [intOf]; omega
    · have hall : en.any (hitE s) = false := by
        rw [List.any_eq_false]
        intro x hx
        obtain ⟨i, hi2, rfl⟩ := List.getElem_of_mem hx
        rw [hr i hi2 (by omega)]; simp
      go_wp2
      go_ret
      exact ⟨_, rfl, by first | decide | (simp [hall]; done), hb⟩

theorem containsE14 (en : List Ent) (s : ByteArray) (a : Option Addr) (cap p : Nat) (w : World) (hl : en.length ≤ 60) (hs : EntsAt w a en) (h : w.cell? ⟨p, 0, none⟩ = some (.string s)) :
    Calls Tryz.prog 14 #[.slice a en.length cap, .func (.func 15) #[] #[.pointer (some ⟨p, 0, none⟩)]] w fun e w' => e = .returned (.bool (en.any (hitE s))) ∧ Below w.heap.size w w' := by
  have hC := indexE27 en s a cap p w hl hs h
  clear hs h
  go_enter Tryz.func14, Tryz.ntmps14
  go_wp2_with (first | (go_at_call 27; refine hC.mono ?_; rintro e w' ⟨r, rfl, hr, hb⟩) | go_in)
  all_goals go_ret
  all_goals exact ⟨by rw [← hr]; rfl, hb⟩

def offerB (l : List Tab) (md nm : ByteArray) : Bool := match ixOf l md with | some m => offersB (tabAt l m) nm | none => false

theorem offers13 (l : List Tab) (md nm : ByteArray) (a : Option Addr) (cap p5 p1 bm : Nat) (w : World) (hs : ∀ j (hj : j < l.length), l[j].im.length ≤ 12 ∧ l[j].en.length ≤ 60) (hm : md.size ≤ maxLen) (hd : ∀ i, i < l.length → dupB l i = false)
    (h1 : w.cell? ⟨p5, 0, none⟩ = some (.map (some bm))) (h2 : w.cell? ⟨p1, 0, none⟩ = some (.slice a l.length cap)) (hown : w.ownsMap Tryz.prog 9 (plainElem Tryz.prog 3) bm l.length (mapD l l.length)) (hT : TabsAt w a l) :
    Calls Tryz.prog 13 #[.string md, .string nm, .pointer (some ⟨p5, 0, none⟩), .pointer (some ⟨p1, 0, none⟩)] w fun e w' => e = .returned (.bool (offerB l md nm)) ∧ Below w.heap.size w w' := by
  have hkey := keyOf_string_mk (P := Tryz.prog) Tryz.underlying9 hm
  have hhas := mapD_has (l := l) (s := md) (Nat.le_refl _)
  have hB : Below w.heap.size w (w.alloc (Obj.cells #[.string nm] 9)) := (Below.refl _ _).alloc (Nat.le_refl _) _
  have c1 := cell_below hB (Nat.le_refl _) h1
  have c2 := cell_below hB (Nat.le_refl _) h2
  have HO : Hid ((w.alloc (Obj.cells #[.string nm] 9)).ownsMap Tryz.prog 9 (plainElem Tryz.prog 3) bm l.length (mapD l l.length)) := hown.alloc _
  have HT : Hid (TabsAt w a l) := hT
  have HA : Hid (∀ j, ixOf l md = some j → ∀ z, (mapD l l.length).atKey (klS md) z = .lit (.int .i64 j)) := fun j hj z => mapD_at hj z (Nat.le_refl _) hd (ixOf_lt hj)
  clear hown hT hd h1 h2
  go_enter Tryz.func13, Tryz.ntmps13
  cases hq : ixOf l md with
  | none =>
    have hh : Maps.has (mapD l l.length) (klS md) = false := by rw [hhas, hq]
    have he : offerB l md nm = false := by unfold offerB; rw [hq]
    go_wp2_with (first | (at_lookup; refine wpList_lookup_own_ok_int _ rfl _ _ 56 rfl 9 3 .i64 law9 Tryz.underlying56 Tryz.underlying3 (zero3 _) bm l.length (mapD l l.length) rfl HO.out _ _ rfl hkey ?_; intro c hat hwc; rw [show (Lit.string md.data.toList) = klS md from rfl, hh]; clear hat) | go_in)
    go_ret
    exact ⟨by rw [he]; rfl, hB⟩
  | some m =>
    have hm2 := ixOf_lt hq
    have hh : Maps.has (mapD l l.length) (klS md) = true := by rw [hhas, hq]; simpa using hm2
    have he : offerB l md nm = offersB l[m] nm := by
      unfold offerB
      rw [hq]
      show offersB (tabAt l m) nm = _
      rw [tabAt_eq hm2]
    obtain ⟨b, o, a1, d1, a2, d2, rfl, t1, t2, t3, t4, t5⟩ := HT.out m hm2
    have t4' := cell_below hB (Nat.le_refl _) t4
    have hat0 := HA.out m hq (.lit (.int .i64 0))
    have h60 := (hs m hm2).2
    have hC := containsE14 l[m].en nm a2 d2 w.heap.size (w.alloc (Obj.cells #[.string nm] 9)) h60 (t5.below hB (Nat.le_refl _)) (by rw [World.cell?_alloc_at _ _ _ _ rfl]; rfl)
    clear t1 t2 t3 t4 t5
    go_wp2_with (first | (at_lookup; refine wpList_lookup_own_ok_int _ rfl _ _ 56 rfl 9 3 .i64 law9 Tryz.underlying56 Tryz.underlying3 (zero3 _) bm l.length (mapD l l.length) rfl HO.out _ _ rfl hkey ?_; intro c hat hwc; rw [show (Lit.string md.data.toList) = klS md from rfl, hh]; obtain rfl : c = (m : Int) := by (have e := hat.symm.trans hat0; injection e with e; injection e)) | (go_at_call 14; refine hC.mono ?_; rintro e w' ⟨rfl, hb⟩) | go_in)
    go_ret
    exact ⟨by rw [he]; rfl, hB.trans (hb.mono hB.size)⟩

end Go.Proofs.YtdmjlimmllhhoaaGreatDoor

