/- Law 25: walks of what its laws call, part 6: ScopeFollows: each computes what the plain functions named here say. Conditions: the tables lie in memory as the views say, and are small. -/
import Derived.Test.YtdmjlimmllhhoaaGreatDoorSc5
namespace Go.Proofs.YtdmjlimmllhhoaaGreatDoor
open Go Go.RowKit
set_option maxRecDepth 100000

def Chain (l : List Tab) : List Bool → List Nat → Prop
  | _, [] => True
  | tk, i :: r => i < l.length ∧ nextB l tk i = true ∧ Chain l (tk.set i true) r

def takes (tk : List Bool) (r : List Nat) : List Bool := r.foldl (fun tk i => tk.set i true) tk

theorem takes_length (r : List Nat) : ∀ tk, (takes tk r).length = tk.length := by
  induction r with
  | nil => intro tk; rfl
  | cons i r ih => intro tk; show (takes (tk.set i true) r).length = _; rw [ih]; simp

theorem chain_at {l : List Tab} : ∀ {out : List Nat} {tk : List Bool}, Chain l tk out → ∀ k (hk : k < out.length), out[k] < l.length ∧ nextB l (takes tk (out.take k)) out[k] = true := by
  intro out
  induction out with
  | nil => intro tk _ k hk; exact absurd hk (Nat.not_lt_zero _)
  | cons i r ih =>
    intro tk h k hk
    cases k with
    | zero => exact ⟨h.1, h.2.1⟩
    | succ k => exact ih h.2.2 k (by simpa using hk)

theorem ordGo_cases {l : List Tab} : ∀ (f : Nat) (tk : List Bool) (out : List Nat), tk.length = l.length → tk.count false = f →
    (∃ rest, ordGo l f tk out = (out ++ rest, 0, 0) ∧ rest.length = f ∧ Chain l tk rest) ∨ ∃ i, i < l.length ∧ ordGo l f tk out = ([], (i : Int), 20) := by
  intro f
  induction f with
  | zero => intro tk out _ _; exact .inl ⟨[], by simp [ordGo], rfl, trivial⟩
  | succ f ih =>
    intro tk out hl hc
    cases hn : (List.range l.length).find? (nextB l tk) with
    | none =>
      right
      have hpos : 0 < tk.count false := by omega
      obtain ⟨j, hj, he⟩ := List.getElem_of_mem (List.count_pos_iff.1 hpos)
      have hu : untB tk j = true := by unfold untB; rw [List.getD_eq_getElem?_getD, List.getElem?_eq_getElem hj, he]; rfl
      cases hf : (List.range l.length).find? (untB tk) with
      | none =>
        rw [List.find?_eq_none] at hf
        exact absurd hu (hf j (List.mem_range.2 (by omega)))
      | some i =>
        refine ⟨i, (find_prop hf).1, ?_⟩
        rw [ordGo_none hn, hf]; rfl
    | some i =>
      have hi := find_prop hn
      have hf : tk.getD i false = false := by
        have := hi.2
        unfold nextB untB at this
        simp only [Bool.and_eq_true, Bool.not_eq_true'] at this
        exact this.1
      have hit : i < tk.length := by omega
      have hget : tk[i] = false := by rw [List.getD_eq_getElem?_getD, List.getElem?_eq_getElem hit] at hf; exact hf
      have hc2 : (tk.set i true).count false = f := by
        rw [List.count_set hit, hget]; simp; omega
      rw [ordGo_some hn]
      rcases ih (tk.set i true) (out ++ [i]) (by simpa using hl) hc2 with ⟨rest, h1, h2, h3⟩ | h
      · exact .inl ⟨i :: rest, by rw [h1]; simp, by simp [h2], hi.1, hi.2, h3⟩
      · exact .inr h

theorem ordOf_cases (l : List Tab) : ((ordOf l).2.2 = 0 ∧ (ordOf l).1.length = l.length ∧ Chain l (List.replicate l.length false) (ordOf l).1) ∨
    ∃ (i : Nat) (c : Int), i < l.length ∧ c ≠ 0 ∧ ordOf l = ([], (i : Int), c) := by
  unfold ordOf
  split
  · rename_i i h
    exact .inr ⟨i, 8, (find_prop h).1, by decide, rfl⟩
  · split
    · rename_i i h
      exact .inr ⟨i, 9, (find_prop (p := fun i => lacksB l (tabAt l i)) h).1, by decide, rfl⟩
    · rcases ordGo_cases (l := l) l.length (List.replicate l.length false) [] (by simp) (by simp) with ⟨rest, h1, h2, h3⟩ | ⟨i, h1, h2⟩
      · left; rw [h1]; exact ⟨rfl, by simpa using h2, by simpa using h3⟩
      · exact .inr ⟨i, 20, h1, by decide, h2⟩

end Go.Proofs.YtdmjlimmllhhoaaGreatDoor

namespace Go.Proofs.YtdmjlimmllhhoaaGreatDoor
open Go Go.RowKit
set_option maxRecDepth 100000
set_option maxHeartbeats 2000000

def fndB (l : List Tab) (tk : List Bool) (m : ByteArray) (j : Nat) : Bool := (List.range j).any fun i => tk.getD i false && (tabAt l i).nm.toList == m.toList

theorem fndB_succ {l : List Tab} {tk : List Bool} {m : ByteArray} {j : Nat} : fndB l tk m (j + 1) = (fndB l tk m j || (tk.getD j false && (tabAt l j).nm.toList == m.toList)) := by
  unfold fndB
  rw [List.range_succ, List.any_append]; simp

theorem law4 (l : List Tab) (a : Option Addr) (cap : Nat) (w : World) (hlen : l.length ≤ 9223372036854775807)
    (hz : ∀ j (hj : j < l.length), l[j].nm.size ≤ maxLen ∧ (∀ i (hi : i < l[j].im.length), l[j].im[i].size ≤ maxLen) ∧ ∀ i (hi : i < l[j].en.length), l[j].en[i].md.size ≤ maxLen) (h : TabsAt w a l) :
    Calls Tryz.prog 4 #[.slice a l.length cap] w fun e w' => e = .returned (.bool true) ∧ Below w.heap.size w w' := by
  have HT : Hid (TabsAt w a l) := h
  clear h
  go_enter Tryz.func4, Tryz.ntmps4
  go_wp2_with fail
  refine (awake_true w).mono fun e w1 ⟨he, hb1⟩ => ?_
  subst he
  go_wp2_with fail
  have hT1 := HT.out.below hb1 (Nat.le_refl _)
  refine (small6 l a cap w1 hlen hT1).mono fun e w1' ⟨he, hw⟩ => ?_
  subst he; subst hw
  cases hsm : smallB l with
  | false =>
    go_wp2_with fail
    go_ret
    exact ⟨rfl, hb1⟩
  | true =>
    obtain ⟨hl, hs⟩ := smallB_all hsm
    have hmk := run_make_row' (P := Tryz.prog) 34 4 (.bool false) 1 Tryz.underlying34 Tryz.info4 rfl .i64 .i64 l.length (by omega) (by omega)
    go_wp2_with fail
    refine (all8 l a cap _ hl hs hT1).mono fun e w2 ⟨a2, c2, he, hT2, hb2⟩ => ?_
    subst he
    go_wp2_with fail
    refine (order7 l a2 c2 w2 hl hs hz hT2).mono fun e w3 ⟨v, he, hv, hb3⟩ => ?_
    subst he
    have hs1 := hb1.size
    have hb13 : Below w.heap.size w w3 := hb1.trans ((hb2.trans (hb3.mono hb2.size)).mono hs1)
    have hs3 := hb13.size
    obtain ⟨x, cx, rfl, hx⟩ := hv
    rcases ordOf_cases l with ⟨hc0, hol, hch⟩ | ⟨i, c, hi, hc, ho⟩
    · rw [hc0, hol]
      generalize hout : (ordOf l).1 = out at hol hch hx
      have HX : Hid (IntsAt w3 x (out.map Int.ofNat)) := hx
      have HA : Hid (∀ k (hk : k < out.length), out[k] < l.length ∧ nextB l (takes (List.replicate l.length false) (out.take k)) out[k] = true) := chain_at hch
      have hlit : Hid ((w3.alloc (.cells (madeCells #[Value.bool false] l.length) 4)).ownsRow w3.heap.size 4 1 (.slice (some ⟨w3.heap.size, 0, none⟩) l.length l.length) l.length ((List.replicate l.length false).map Value.bool)) := by
        have := World.ownsRow_lit (base := w3.heap.size) (e := 4) (size := 1) w3 (madeCells #[Value.bool false] l.length) l.length (Nat.le_refl _) (by unfold maxLen; omega) (by simp [madeCells])
        rw [toList_madeCells_one, ← List.map_replicate] at this
        exact this
      clear hx hch hT2 hT1
      go_wp2
      go_loopw [7] (fun q wr => ∃ k : Nat, k ≤ l.length ∧ q = .int .i64 k ∧ wr.ownsRow w3.heap.size 4 1 (.slice (some ⟨w3.heap.size, 0, none⟩) l.length l.length) l.length ((takes (List.replicate l.length false) (out.take k)).map Value.bool) ∧ Below w3.heap.size w3 wr)
        (fun q _ => l.length - (intOf q).toNat)
      case atStart => exact ⟨0, Nat.zero_le _, rfl, hlit.out, (Below.refl _ _).alloc (Nat.le_refl _) _⟩
      case round =>
        obtain ⟨k, hk, rfl, htk, hb4⟩ := hrel
        have hs4 := hb4.size
        by_cases hk2 : k < l.length
        · obtain ⟨q1, q2⟩ := HA.out k (by omega)
          generalize htkk : takes (List.replicate l.length false) (out.take k) = tk at htk q2
          have htl : tk.length = l.length := by rw [← htkk, takes_length]; simp
          have HK : Hid (wr.ownsRow w3.heap.size 4 1 (.slice (some ⟨w3.heap.size, 0, none⟩) l.length l.length) l.length (tk.map Value.bool)) := htk
          have HC : Hid (∀ j, j < l.length → wr.cell? ⟨w3.heap.size, j, none⟩ = some (.bool (tk.getD j false))) := fun j hj => by
            rw [htk.cellAt j (by omega), List.getElem?_map, List.getD_eq_getElem?_getD, List.getElem?_eq_getElem (by omega)]; rfl
          have hun : tk.getD out[k] false = false := by
            unfold nextB untB at q2
            simp only [Bool.and_eq_true, Bool.not_eq_true'] at q2
            exact q2.1
          have hrd : readyB l tk l[out[k]] = true := by
            unfold nextB at q2
            rw [tabAt_eq q1] at q2
            simp only [Bool.and_eq_true] at q2
            exact q2.2
          have hco := HC.out out[k] q1
          rw [hun] at hco
          obtain ⟨bx, ox, rfl, hgx⟩ := HX.out.below hb4 (Nat.le_refl _) k (by simpa using (show k < out.length by omega))
          have hgx' : wr.cell? ⟨bx, ox + k, none⟩ = some (.int .i64 (out[k] : Int)) := by simpa using hgx
          obtain ⟨b, o, a1, c1, a2', c2', rfl, h1, h2, h3, h4, h5⟩ := (HT.out.below hb13 (Nat.le_refl _)).below hb4 (Nat.le_refl _) out[k] q1
          have HS : Hid (StrsAt wr a1 l[out[k]].im) := h3
          have HTr : Hid (TabsAt wr (some ⟨b, o, none⟩) l) := (HT.out.below hb13 (Nat.le_refl _)).below hb4 (Nat.le_refl _)
          have hsm2 := hs _ q1
          clear htk h3 h5 hgx q2
          have hge : decide ((out[k] : Int) < 0) = false := by simp
          have hlt2 : decide ((out[k] : Int) ≥ (l.length : Int)) = false := by simp; omega
          have hF : Hid (∀ m (hm : m < l[out[k]].im.length), fndB l tk l[out[k]].im[m] l.length = true) := fun m hm => by
            have hk3 : tkB l tk l[out[k]].im[m] = true := by
              unfold readyB at hrd
              rw [List.all_eq_true] at hrd
              exact hrd _ (List.getElem_mem hm)
            unfold tkB at hk3
            cases hq : ixOf l l[out[k]].im[m] with
            | none => rw [hq] at hk3; cases hk3
            | some j0 =>
              rw [hq] at hk3
              have hk4 : tk.getD j0 false = true := hk3
              unfold fndB
              rw [List.any_eq_true]
              exact ⟨j0, List.mem_range.2 (ixOf_lt hq), by rw [hk4, ixOf_at hq]; rfl⟩
          clear hrd
          go_wp2
          rename World => w4
          go_loopw [8] (fun q wr => ∃ m : Nat, m ≤ l[out[k]].im.length ∧ q = .int .i64 m ∧ Below w4.heap.size w4 wr)
            (fun q _ => l[out[k]].im.length - (intOf q).toNat)
          case atStart => exact ⟨0, Nat.zero_le _, rfl, Below.refl _ _⟩
          case round =>
            obtain ⟨m, hm, rfl, hb5⟩ := hrel
            have hs5 := hb5.size
            have y1 := cell_below hb5 (Nat.le_refl _) hgx'
            have y2 := cell_below hb5 (Nat.le_refl _) h2
            by_cases hm2 : m < l[out[k]].im.length
            · obtain ⟨b2, o2, rfl, g1⟩ := HS.out.below hb5 (Nat.le_refl _) m hm2
              have hFm := hF.out m hm2
              go_wp2
              rename World => w5
              go_loopw [9, 10] (fun fd q wr => ∃ j : Nat, j ≤ l.length ∧ q = .int .i64 j ∧ fd = .bool (fndB l tk l[out[k]].im[m] j) ∧ Below w5.heap.size w5 wr)
                (fun _ q _ => l.length - (intOf q).toNat)
              case atStart => exact ⟨0, Nat.zero_le _, rfl, rfl, Below.refl _ _⟩
              case round =>
                obtain ⟨j, hj, rfl, rfl, hb6⟩ := hrel
                have hs6 := hb6.size
                by_cases hj2 : j < l.length
                · have hb46 := hb5.trans (hb6.mono hs5)
                  obtain ⟨b3, o3, a3, c3, a4, c4, e3, t1, _⟩ := HTr.out.below hb46 (Nat.le_refl _) j hj2
                  cases e3
                  have cd := cell_below hb46 (Nat.le_refl _) (HC.out j hj2)
                  have z1 := cell_below hb6 (Nat.le_refl _) y1
                  have z2 := cell_below hb6 (Nat.le_refl _) y2
                  have z3 := cell_below hb6 (Nat.le_refl _) g1
                  have hsucc := fndB_succ (l := l) (tk := tk) (m := l[out[k]].im[m]) (j := j)
                  rw [tabAt_eq hj2] at hsucc
                  cases hfd : fndB l tk l[out[k]].im[m] j with
                  | true =>
                    rw [hfd] at hsucc
                    go_wp2
                    go_quiet (fail)
                    go_wp2
                    go_roundw
                    case rel => exact ⟨j + 1, by omega, by go_num, by rw [hsucc]; rfl, hb6.trans ⟨rfl, rfl, rfl, Nat.le_refl _, fun _ _ => rfl⟩⟩
                    case measure => simp [intOf]; omega
                  | false =>
                    rw [hfd] at hsucc
                    cases hd : tk.getD j false with
                    | true =>
                      rw [hd] at hsucc cd
                      go_wp2
                      go_quiet (fail)
                      go_wp2
                      go_roundw
                      case rel => exact ⟨j + 1, by omega, by go_num, by rw [hsucc]; rfl, hb6.trans ⟨rfl, rfl, rfl, Nat.le_refl _, fun _ _ => rfl⟩⟩
                      case measure => simp [intOf]; omega
                    | false =>
                      rw [hd] at hsucc cd
                      go_wp2
                      go_quiet (fail)
                      go_wp2
                      go_roundw
                      case rel => exact ⟨j + 1, by omega, by go_num, by rw [hsucc]; rfl, hb6.trans ⟨rfl, rfl, rfl, Nat.le_refl _, fun _ _ => rfl⟩⟩
                      case measure => simp [intOf]; omega
                · have hjn : j = l.length := by omega
                  subst hjn
                  rw [hFm]
                  go_wp2
                  go_roundw
                  case rel => exact ⟨m + 1, by omega, by go_num, hb5.trans (hb6.mono hs5)⟩
                  case measure => simp [intOf]; omega
            · have HKr : Hid _ := owns_below HK.out hb5
              have hfr := (owns_below HK.out hb5).frozenAt out[k]
              have hst := (owns_below HK.out hb5).stored out[k] (.bool true)
              have hco2 := cell_below hb5 (Nat.le_refl _) hco
              have htake : takes (List.replicate l.length false) (out.take (k + 1)) = tk.set out[k] true := by
                rw [List.take_succ_eq_append_getElem (by omega), takes, List.foldl_append]; exact congrArg (fun t => t.set out[k] true) htkk
              go_wp2
              go_roundw
              case rel => exact ⟨k + 1, by omega, by go_num, by rw [htake, List.map_set]; exact hst.1, (hb4.trans (hb5.mono hs4)).setCell (Nat.le_refl _) _⟩
              case measure => simp [intOf]; omega
        · go_wp2
          go_ret
          exact ⟨rfl, hb13.trans (hb4.mono hs3)⟩
    · rw [ho]
      go_wp2
      go_ret
      exact ⟨rfl, hb13⟩
end Go.Proofs.YtdmjlimmllhhoaaGreatDoor

