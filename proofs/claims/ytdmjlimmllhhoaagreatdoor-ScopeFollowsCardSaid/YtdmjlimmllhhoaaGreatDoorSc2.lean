/- Law 25: walks of what its laws call, part 2: the reference's Order; from and all: each computes what the plain functions named here say. Conditions: the tables lie in memory as the views say, and are small. -/
import Derived.Test.YtdmjlimmllhhoaaGreatDoorSc1
import Derived.Maps.AppendAt
namespace Go.Proofs.YtdmjlimmllhhoaaGreatDoor
open Go Go.RowKit
set_option maxRecDepth 100000
set_option maxHeartbeats 1000000


theorem Tryz.info3 : (Tryz.prog.info? 3).map (fun i => (i.zero, i.size, i.bytes)) = some (some (.int .i64 0), 1, 8) := by kernel_rfl
theorem Tryz.info4 : (Tryz.prog.info? 4).map (fun i => (i.zero, i.size, i.bytes)) = some (some (.bool false), 1, 1) := by kernel_rfl

def OutAt (w : World) (v : Value) (xs : List Nat) : Prop := ∃ a c, v = .slice a xs.length c ∧ IntsAt w a (xs.map Int.ofNat)

theorem OutAt.nil (w : World) : OutAt w (.slice none 0 0) [] := ⟨none, 0, rfl, fun _ hi => absurd hi (Nat.not_lt_zero _)⟩

theorem order9 (l : List Tab) (a : Option Addr) (cap : Nat) (w : World) (hl : l.length ≤ 10) (hs : ∀ j (hj : j < l.length), l[j].im.length ≤ 12 ∧ l[j].en.length ≤ 60) (h : TabsAt w a l) :
    Calls Tryz.prog 9 #[.slice a l.length cap] w fun e w' => ∃ v, e = .returned (.tuple #[v, .int .i64 (ordOf l).2.1, .int .i64 (ordOf l).2.2]) ∧ OutAt w' v (ordOf l).1 ∧ Below w.heap.size w w' := by
  obtain ⟨i0, hi, hz0, hz1, hz2⟩ := info_parts Tryz.info3
  have hmk := run_make_row' (P := Tryz.prog) 34 4 (.bool false) 1 Tryz.underlying34 Tryz.info4 rfl .i64 .i64 l.length (by omega) (by omega)
  go_enter Tryz.func9, Tryz.ntmps9
  go_wp2
  have H : Hid (TabsAt w a l) := h
  go_loop [5] (fun q => ∃ k : Nat, k ≤ l.length ∧ q = .int .i64 k ∧ ∀ j, j < k → dupB l j = false)
    (fun q => l.length - (intOf q).toNat)
  case atStart => exact ⟨0, Nat.zero_le _, rfl, fun j hj => absurd hj (Nat.not_lt_zero _)⟩
  case round =>
    obtain ⟨k, hk, rfl, hn⟩ := hrel
    by_cases hk2 : k < l.length
    · obtain ⟨b, o, a1, c1, a2, c2, rfl, h1, h2, h3, h4, h5⟩ := h k hk2
      clear h
      have hdup : dupB l k = decide (findI l l[k].nm < k) := by unfold dupB; rw [tabAt_eq hk2]
      go_wp2_with (first | (go_at_call 20; refine (find20 l _ _ _ _ hl H.out).mono ?_; rintro e w' ⟨rfl, rfl⟩) | go_in)
      · have hq : findI l l[k].nm < k := by assumption
        have he := ordOf_dup hk2 (by rw [hdup]; simpa using hq) hn
        go_ret3
        rw [he]
        exact ⟨_, rfl, OutAt.nil _, Below.refl _ _⟩
      · have hq : (k : Int) ≤ findI l l[k].nm := by assumption
        go_round
        case rel => exact ⟨k + 1, by omega, by go_num, fun j hj => by
          rcases Nat.lt_succ_iff_lt_or_eq.1 hj with q | q
          · exact hn j q
          · subst q; rw [hdup]; simpa using hq⟩
        case measure => simp [intOf]; omega
    · have hdup : Hid (∀ j, j < l.length → dupB l j = false) := fun j hj => hn j (by omega)
      clear hn h
      go_wp2
      go_loopw [6] (fun q wr => ∃ k : Nat, k ≤ l.length ∧ q = .int .i64 k ∧ (∀ j, j < k → lacksB l (tabAt l j) = false) ∧ Below w.heap.size w wr)
        (fun q _ => l.length - (intOf q).toNat)
      case atStart => exact ⟨0, Nat.zero_le _, rfl, fun j hj => absurd hj (Nat.not_lt_zero _), Below.refl _ _⟩
      case round =>
        obtain ⟨k, hk, rfl, hn, hb⟩ := hrel
        have hsz := hb.size
        by_cases hk2 : k < l.length
        · cases hlk : lacksB l l[k] with
          | true =>
            have he := ordOf_lack hdup.out hk2 (by rw [tabAt_eq hk2]; exact hlk) hn
            go_wp2_with (first | (go_at_call 21; refine (lacks21 l k hk2 _ _ _ hl hs (H.out.below hb (Nat.le_refl _))).mono ?_; rintro e w' ⟨rfl, hb2⟩; rw [hlk]) | go_in)
            go_ret3
            rw [he]
            exact ⟨_, rfl, OutAt.nil _, hb.trans (hb2.mono hsz)⟩
          | false =>
            go_wp2_with (first | (go_at_call 21; refine (lacks21 l k hk2 _ _ _ hl hs (H.out.below hb (Nat.le_refl _))).mono ?_; rintro e w' ⟨rfl, hb2⟩; rw [hlk]) | go_in)
            go_roundw
            case rel => exact ⟨k + 1, by omega, by go_num, fun j hj => by
              rcases Nat.lt_succ_iff_lt_or_eq.1 hj with q | q
              · exact hn j q
              · subst q; rw [tabAt_eq hk2]; exact hlk, hb.trans (hb2.mono hsz)⟩
            case measure => simp [intOf]; omega
        · have hlack : Hid (∀ j, j < l.length → lacksB l (tabAt l j) = false) := fun j hj => hn j (by omega)
          have hord : Hid (ordOf l = _) := ordOf_go hdup.out hlack.out
          clear hn
          go_wp2
          rename World => w2
          have hlit : Hid ((w2.alloc (.cells (madeCells #[Value.bool false] l.length) 4)).ownsRow w2.heap.size 4 1 (.slice (some ⟨w2.heap.size, 0, none⟩) l.length l.length) l.length ((List.replicate l.length false).map Value.bool)) := by
            have := World.ownsRow_lit (base := w2.heap.size) (e := 4) (size := 1) w2 (madeCells #[Value.bool false] l.length) l.length (Nat.le_refl _) (by unfold maxLen; omega) (by simp [madeCells])
            rw [toList_madeCells_one, ← List.map_replicate] at this
            exact this
          clear hmk
          go_loopw [7] (fun v w3 => ∃ (tk : List Bool) (out : List Nat), tk.length = l.length ∧ out.length ≤ l.length ∧ ordGo l (l.length - out.length) tk out = ordGo l l.length (List.replicate l.length false) [] ∧
              w3.ownsRow (w2.heap.size + 1) 3 1 v out.length ((out.map Int.ofNat).map (Value.int .i64)) ∧
              w3.ownsRow w2.heap.size 4 1 (.slice (some ⟨w2.heap.size, 0, none⟩) l.length l.length) l.length (tk.map Value.bool) ∧ Below w.heap.size w w3 ∧ w2.heap.size + 1 ≤ w3.heap.size)
            (fun v _ => l.length - lenOf v)
          case atStart => exact ⟨List.replicate l.length false, [], by simp, Nat.zero_le _, rfl, World.ownsRow_nil _ _ _ _, hlit.out, hb.alloc hsz _, by simp⟩
          case round =>
            obtain ⟨tk, out, ht1, ht2, hgo, hown, htk, hb3, hs3⟩ := hrel
            obtain ⟨av, cv, rfl⟩ := owns_slice hown
            have HG : Hid (ordGo l (l.length - out.length) tk out = ordGo l l.length (List.replicate l.length false) []) := hgo
            have HO : Hid (wr.ownsRow (w2.heap.size + 1) 3 1 (.slice av out.length cv) out.length ((out.map Int.ofNat).map (Value.int .i64))) := hown
            have HK : Hid (wr.ownsRow w2.heap.size 4 1 (.slice (some ⟨w2.heap.size, 0, none⟩) l.length l.length) l.length (tk.map Value.bool)) := htk
            have HC : Hid (∀ j, j < l.length → wr.cell? ⟨w2.heap.size, j, none⟩ = some (.bool (tk.getD j false))) := fun j hj => by
              rw [htk.cellAt j (by omega), List.getElem?_map, List.getD_eq_getElem?_getD, List.getElem?_eq_getElem (by omega)]; rfl
            clear hgo hown htk
            by_cases hlen : out.length < l.length
            · go_wp2
              go_loop [9, 10, 11] (fun nx fs q => ∃ k : Nat, k ≤ l.length ∧ q = .int .i64 k ∧ nx = .int .i64 (optI ((List.range k).find? (nextB l tk))) ∧ fs = .int .i64 (optI ((List.range k).find? (untB tk))))
                (fun _ _ q => l.length - (intOf q).toNat)
              case atStart => exact ⟨0, Nat.zero_le _, rfl, rfl, rfl⟩
              case round =>
                obtain ⟨k, hk, rfl, rfl, rfl⟩ := hrel
                by_cases hk2 : k < l.length
                · obtain ⟨b, o, a1, c1, a2, c2, rfl, h1, h2, h3, h4, h5⟩ := H.out.below hb3 (Nat.le_refl _) k hk2
                  have hck := HC.out k hk2
                  have HS : Hid (StrsAt wr a1 l[k].im) := h3
                  have hz := (hs k hk2).1
                  clear h1 h3 h4 h5
                  cases htkk : tk.getD k false with
                  | true =>
                    rw [htkk] at hck
                    have e1 : (List.range (k + 1)).find? (nextB l tk) = (List.range k).find? (nextB l tk) := by rw [find_succ, show nextB l tk k = false by simp only [nextB, untB, htkk]; rfl]; cases (List.range k).find? (nextB l tk) <;> rfl
                    have e2 : (List.range (k + 1)).find? (untB tk) = (List.range k).find? (untB tk) := by rw [find_succ, show untB tk k = false by simp only [untB, htkk]; rfl]; cases (List.range k).find? (untB tk) <;> rfl
                    go_wp2
                    go_round
                    case rel => exact ⟨k + 1, by omega, by go_num, by rw [e1], by rw [e2]⟩
                    case measure => simp [intOf]; omega
                  | false =>
                    rw [htkk] at hck
                    have hun : untB tk k = true := by simp only [untB, htkk]; rfl
                    cases hf : (List.range k).find? (untB tk) with
                    | none =>
                      have e2 : (List.range (k + 1)).find? (untB tk) = some k := by rw [find_succ, hf, hun]; rfl
                      go_wp2
                      go_loop [12, 13] (fun rd q => ∃ m : Nat, m ≤ l[k].im.length ∧ q = .int .i64 m ∧ rd = .bool ((l[k].im.take m).all (tkB l tk)))
                        (fun _ q => l[k].im.length - (intOf q).toNat)
                      case atStart => exact ⟨0, Nat.zero_le _, rfl, rfl⟩
                      case round =>
                        obtain ⟨m, hm, rfl, rfl⟩ := hrel
                        by_cases hm2 : m < l[k].im.length
                        · obtain ⟨b1, o1, rfl, g1⟩ := HS.out m hm2
                          cases hrd : (l[k].im.take m).all (tkB l tk) with
                          | false =>
                            go_wp2
                            go_round
                            case rel => exact ⟨m + 1, by omega, by go_num, by rw [ready_succ hm2, hrd]; rfl⟩
                            case measure => simp [intOf]; omega
                          | true =>
                            obtain ⟨j, hj⟩ := lacksB_names (by have := hlack.out k hk2; rw [tabAt_eq hk2] at this; exact this) m hm2
                            have hf2 := findI_some hj
                            have hj2 := ixOf_lt hj
                            have hcj := HC.out j hj2
                            go_wp2_with (first | (go_at_call 20; refine (find20 l _ _ _ _ hl (H.out.below hb3 (Nat.le_refl _))).mono ?_; rintro e w' ⟨rfl, rfl⟩; rw [hf2]) | go_in)
                            go_round
                            case rel => exact ⟨m + 1, by omega, by go_num, by rw [ready_succ hm2, hrd]; simp [tkB, hj, show j < tk.length by omega]⟩
                            case measure => simp [intOf]; omega
                        · have hR : (l[k].im.take m).all (tkB l tk) = readyB l tk (tabAt l k) := by rw [tabAt_eq hk2, show m = l[k].im.length by omega, List.take_length]; rfl
                          rw [hR]
                          cases hR2 : readyB l tk (tabAt l k) with
                          | false =>
                            have e1 : (List.range (k + 1)).find? (nextB l tk) = (List.range k).find? (nextB l tk) := by rw [find_succ, show nextB l tk k = false by simp only [nextB, hR2, Bool.and_false]]; cases (List.range k).find? (nextB l tk) <;> rfl
                            go_wp2
                            go_round
                            case rel => exact ⟨k + 1, by omega, by go_num, by rw [e1], by rw [e2]; rfl⟩
                            case measure => simp [intOf]; omega
                          | true =>
                            have hnb : nextB l tk k = true := by simp only [nextB, hR2, hun]; rfl
                            cases hnx : (List.range k).find? (nextB l tk) with
                            | none =>
                              have e1 : (List.range (k + 1)).find? (nextB l tk) = some k := by rw [find_succ, hnx, hnb]; rfl
                              go_wp2
                              go_round
                              case rel => exact ⟨k + 1, by omega, by go_num, by rw [e1]; rfl, by rw [e2]; rfl⟩
                              case measure => simp [intOf]; omega
                            | some j1 =>
                              have e1 : (List.range (k + 1)).find? (nextB l tk) = some j1 := by rw [find_succ, hnx]
                              go_wp2
                              go_round
                              case rel => exact ⟨k + 1, by omega, by go_num, by rw [e1], by rw [e2]; rfl⟩
                              case measure => simp [intOf]; omega
                    | some j0 =>
                      have e2 : (List.range (k + 1)).find? (untB tk) = some j0 := by rw [find_succ, hf]
                      go_wp2
                      go_loop [12, 13] (fun rd q => ∃ m : Nat, m ≤ l[k].im.length ∧ q = .int .i64 m ∧ rd = .bool ((l[k].im.take m).all (tkB l tk)))
                        (fun _ q => l[k].im.length - (intOf q).toNat)
                      case atStart => exact ⟨0, Nat.zero_le _, rfl, rfl⟩
                      case round =>
                        obtain ⟨m, hm, rfl, rfl⟩ := hrel
                        by_cases hm2 : m < l[k].im.length
                        · obtain ⟨b1, o1, rfl, g1⟩ := HS.out m hm2
                          cases hrd : (l[k].im.take m).all (tkB l tk) with
                          | false =>
                            go_wp2
                            go_round
                            case rel => exact ⟨m + 1, by omega, by go_num, by rw [ready_succ hm2, hrd]; rfl⟩
                            case measure => simp [intOf]; omega
                          | true =>
                            obtain ⟨j, hj⟩ := lacksB_names (by have := hlack.out k hk2; rw [tabAt_eq hk2] at this; exact this) m hm2
                            have hf2 := findI_some hj
                            have hj2 := ixOf_lt hj
                            have hcj := HC.out j hj2
                            go_wp2_with (first | (go_at_call 20; refine (find20 l _ _ _ _ hl (H.out.below hb3 (Nat.le_refl _))).mono ?_; rintro e w' ⟨rfl, rfl⟩; rw [hf2]) | go_in)
                            go_round
                            case rel => exact ⟨m + 1, by omega, by go_num, by rw [ready_succ hm2, hrd]; simp [tkB, hj, show j < tk.length by omega]⟩
                            case measure => simp [intOf]; omega
                        · have hR : (l[k].im.take m).all (tkB l tk) = readyB l tk (tabAt l k) := by rw [tabAt_eq hk2, show m = l[k].im.length by omega, List.take_length]; rfl
                          rw [hR]
                          cases hR2 : readyB l tk (tabAt l k) with
                          | false =>
                            have e1 : (List.range (k + 1)).find? (nextB l tk) = (List.range k).find? (nextB l tk) := by rw [find_succ, show nextB l tk k = false by simp only [nextB, hR2, Bool.and_false]]; cases (List.range k).find? (nextB l tk) <;> rfl
                            go_wp2
                            go_round
                            case rel => exact ⟨k + 1, by omega, by go_num, by rw [e1], by rw [e2]⟩
                            case measure => simp [intOf]; omega
                          | true =>
                            have hnb : nextB l tk k = true := by simp only [nextB, hR2, hun]; rfl
                            cases hnx : (List.range k).find? (nextB l tk) with
                            | none =>
                              have e1 : (List.range (k + 1)).find? (nextB l tk) = some k := by rw [find_succ, hnx, hnb]; rfl
                              go_wp2
                              go_round
                              case rel => exact ⟨k + 1, by omega, by go_num, by rw [e1]; rfl, by rw [e2]⟩
                              case measure => simp [intOf]; omega
                            | some j1 =>
                              have e1 : (List.range (k + 1)).find? (nextB l tk) = some j1 := by rw [find_succ, hnx]
                              go_wp2
                              go_round
                              case rel => exact ⟨k + 1, by omega, by go_num, by rw [e1], by rw [e2]⟩
                              case measure => simp [intOf]; omega
                · have hkn : k = l.length := by omega
                  subst hkn
                  obtain ⟨f, hfu⟩ : ∃ f, l.length - out.length = f + 1 := ⟨l.length - out.length - 1, by omega⟩
                  have hgo := HG.out
                  rw [hfu] at hgo
                  cases hnx : (List.range l.length).find? (nextB l tk) with
                  | none =>
                    rw [ordGo_none hnx] at hgo
                    have hord2 : Hid (ordOf l = _) := hord.out.trans hgo.symm
                    clear hgo
                    go_wp2
                    go_ret3
                    rw [hord2.out]
                    exact ⟨_, rfl, OutAt.nil _, hb3⟩
                  | some i1 =>
                    have hi1 := (find_prop hnx).1
                    rw [ordGo_some hnx] at hgo
                    have HG2 : Hid _ := hgo
                    clear hgo
                    have hfr := HK.out.frozenAt i1
                    have hci := HC.out i1 hi1
                    have hst := HK.out.stored i1 (.bool true)
                    have HO2 : Hid ((wr.setCell ⟨w2.heap.size, i1, none⟩ (.bool true)).ownsRow (w2.heap.size + 1) 3 1 (.slice av out.length cv) out.length ((out.map Int.ofNat).map (Value.int .i64))) :=
                      HO.out.kept hst.2 (.inr fun e => by have := (HO.out.lt w2.heap.size e).1; omega)
                    clear hst
                    rw [show optI (some i1) = (i1 : Int) from rfl]
                    go_wp2_with (first | (at_builtin; refine wpList_append_own _ rfl _ _ 25 rfl (w2.heap.size + 1) 3 i0 (.int .i64 0) 1 8 Tryz.underlying25 hi hz0 hz1 hz2 rfl (by decide) _ _ _ rfl (HO2.out.alloc _) ⟨wr.heap.size, 0, none⟩ 1 1 [.int .i64 (i1 : Int)] rfl rfl (fun j u hj => by cases j with | zero => (simp at hj; subst hj; exact new_cell _ _ _ _ _) | succ j => simp at hj) (fun u hu => by simp at hu; subst hu; rfl) (by unfold maxLen; omega) (by omega) (by simp; omega) ?_; intro v' w4 hown4 hgrow4 _) | go_in)
                    have R := round_end (n := l.length) HO.out HK.out hown4 hgrow4 hb3 hsz hs3
                    clear hown4 hgrow4
                    obtain ⟨av4, cv4, rfl⟩ := owns_slice R.1
                    go_roundw
                    case rel => exact ⟨tk.set i1 true, out ++ [i1], by simpa using ht1, by simp; omega, by rw [show l.length - (out ++ [i1]).length = f by simp; omega]; exact HG2.out, R.1, R.2.1, R.2.2.1, R.2.2.2⟩
                    case measure => simp [lenOf]; omega
            · go_wp2
              go_ret3
              have hlen2 : l.length - out.length = 0 := by omega
              have hgo := HG.out
              rw [hlen2] at hgo
              have hord2 : ordOf l = (out, 0, 0) := hord.out.trans hgo.symm
              rw [hord2]
              exact ⟨_, rfl, ⟨av, cv, rfl, (owns_ints HO.out).1⟩, hb3⟩
end Go.Proofs.YtdmjlimmllhhoaaGreatDoor

namespace Go.Proofs.YtdmjlimmllhhoaaGreatDoor
open Go Go.RowKit
set_option maxRecDepth 100000
set_option maxHeartbeats 1000000

theorem Tryz.info50 : (Tryz.prog.info? 50).map (fun i => (i.zero, i.size, i.bytes)) = some (some (.agg #[.int .i64 0, .string .empty, .string .empty, .int .i64 0, .int .i64 0]), 5, 56) := by kernel_rfl
theorem Tryz.info46 : (Tryz.prog.info? 46).map (fun i => (i.zero, i.size, i.bytes)) = some (some (.agg #[.string .empty, .slice none 0 0, .slice none 0 0]), 3, 64) := by kernel_rfl

def flatE (l : List Ent) : List Value := l.flatMap fun e => [.int .i64 e.k, .string e.nm, .string e.md, .int .i64 e.lf, .int .i64 e.tg]

theorem flatE_length (l : List Ent) : (flatE l).length = l.length * 5 := by
  induction l with
  | nil => rfl
  | cons e l ih =>
    have : flatE (e :: l) = [.int .i64 e.k, .string e.nm, .string e.md, .int .i64 e.lf, .int .i64 e.tg] ++ flatE l := rfl
    rw [this, List.length_append, ih]; simp; omega

theorem flatE_get (l : List Ent) (i j : Nat) (h : i < l.length) (hj : j < 5) : (flatE l)[i * 5 + j]? = [Value.int .i64 l[i].k, .string l[i].nm, .string l[i].md, .int .i64 l[i].lf, .int .i64 l[i].tg][j]? := by
  induction l generalizing i with
  | nil => exact absurd h (Nat.not_lt_zero _)
  | cons e l ih =>
    have e1 : flatE (e :: l) = [.int .i64 e.k, .string e.nm, .string e.md, .int .i64 e.lf, .int .i64 e.tg] ++ flatE l := rfl
    rw [e1]
    cases i with
    | zero => rw [Nat.zero_mul, Nat.zero_add, List.getElem?_append_left (by simpa using hj)]; rfl
    | succ i =>
      rw [List.getElem?_append_right (by simp; omega)]
      have : (i + 1) * 5 + j - [Value.int .i64 e.k, .string e.nm, .string e.md, .int .i64 e.lf, .int .i64 e.tg].length = i * 5 + j := by simp; omega
      rw [this, ih i (by simpa using h)]; rfl

theorem flatE_snoc (l : List Ent) (e : Ent) : flatE (l ++ [e]) = flatE l ++ [.int .i64 e.k, .string e.nm, .string e.md, .int .i64 e.lf, .int .i64 e.tg] := by
  unfold flatE
  rw [List.flatMap_append]; rfl

theorem owns_ents {w : World} {base : Nat} {a : Option Addr} {c n : Nat} {l : List Ent} (h : w.ownsRow base 50 5 (.slice a n c) n (flatE l)) : EntsAt w a l ∧ l.length = n ∧ ∀ b o, a = some ⟨b, o, none⟩ → base ≤ b := by
  have hlen : l.length = n := by have := h.1; rw [flatE_length] at this; omega
  rcases h.2 with ⟨h1, h2⟩ | ⟨g, cap, cur, h1, h3⟩
  · simp only [Value.slice.injEq] at h1
    refine ⟨fun i hi => by omega, hlen, fun b o e => ?_⟩
    rw [h1.1] at e; cases e
  · have h1' := h1
    simp only [Value.slice.injEq, true_and] at h1'
    obtain ⟨rfl, rfl⟩ := h1'
    refine ⟨fun i hi => ?_, hlen, fun b o e => by cases e; exact h3.1⟩
    have key : ∀ j, j < 5 → w.cell? ⟨g, i * 5 + j, none⟩ = [Value.int .i64 l[i].k, .string l[i].nm, .string l[i].md, .int .i64 l[i].lf, .int .i64 l[i].tg][j]? := fun j hj => by
      rw [h.cellAt _ (by omega), flatE_get l i j hi hj]
    refine ⟨g, 0, rfl, ?_⟩
    rw [Nat.zero_add]
    exact ⟨key 0 (by omega), key 1 (by omega), key 2 (by omega), key 3 (by omega), key 4 (by omega)⟩

theorem new_cells {W : World} {cs : Array Value} {t : TypeId} {n : Nat} (hn : n = W.heap.size) (j : Nat) (u : Value) (h : cs.toList[j]? = some u) : (W.alloc (.cells cs t)).cell? ((⟨n, 0, none⟩ : Addr).add j) = some u := by
  have e : ((⟨n, 0, none⟩ : Addr).add j) = ⟨n, j, none⟩ := by simp [Addr.add]; omega
  rw [e, World.cell?_alloc_at _ _ _ _ hn, ← Array.getElem?_toList]; exact h

theorem from19 (t : Tab) (a1 a2 : Option Addr) (c1 c2 : Nat) (w : World) (hl : t.en.length ≤ 60) (h : EntsAt w a2 t.en) :
    Calls Tryz.prog 19 #[.agg #[.string t.nm, .slice a1 t.im.length c1, .slice a2 t.en.length c2]] w fun e w' => ∃ v, e = .returned (.agg #[.string t.nm, .slice a1 t.im.length c1, v]) ∧
      (∃ a c, v = .slice a t.en.length c ∧ EntsAt w' a t.en ∧ ∀ b o, a = some ⟨b, o, none⟩ → w.heap.size ≤ b) ∧ Below w.heap.size w w' := by
  obtain ⟨i0, hi, hz0, hz1, hz2⟩ := info_parts Tryz.info50
  go_enter Tryz.func19, Tryz.ntmps19
  go_wp2
  go_loopw [4] (fun q wr => ∃ (k : Nat) (v : Value), k ≤ t.en.length ∧ q = .int .i64 k ∧ wr.cell? ⟨w.heap.size, 2, none⟩ = some (.slice a2 t.en.length c2) ∧
      (wr.cell? ⟨w.heap.size + 1, 0, none⟩ = some (.string ⟨#[]⟩) ∧ wr.cell? ⟨w.heap.size + 1, 1, none⟩ = some (.slice none 0 0) ∧ wr.cell? ⟨w.heap.size + 1, 2, none⟩ = some (.slice none 0 0)) ∧
      (wr.frozen? ⟨w.heap.size + 1, 0, none⟩ = false ∧ wr.frozen? ⟨w.heap.size + 1, 1, none⟩ = false ∧ wr.frozen? ⟨w.heap.size + 1, 2, none⟩ = false) ∧
      (wr.cell? ⟨w.heap.size + 1 + 1, 0, none⟩ = some (.string t.nm) ∧ wr.cell? ⟨w.heap.size + 1 + 1, 1, none⟩ = some (.slice a1 t.im.length c1) ∧ wr.cell? ⟨w.heap.size + 1 + 1, 2, none⟩ = some v ∧ wr.frozen? ⟨w.heap.size + 1 + 1, 2, none⟩ = false) ∧
      wr.ownsRow (w.heap.size + 3) 50 5 v k (flatE (t.en.take k)) ∧ Below w.heap.size w wr ∧ w.heap.size + 3 ≤ wr.heap.size)
    (fun q _ => t.en.length - (intOf q).toNat)
  case atStart =>
    refine ⟨0, .slice none 0 0, Nat.zero_le _, rfl, ?_, ⟨?_, ?_, ?_⟩, ⟨?_, ?_, ?_⟩, ⟨?_, ?_, ?_, ?_⟩, World.ownsRow_nil _ _ _ _, ?_, ?_⟩
    all_goals first | (simp; done) | (go_cell; done) | go_grown
  case round =>
    obtain ⟨k, v, hk, rfl, hx, ⟨r0, r1, r2⟩, ⟨f0, f1, f2⟩, ⟨o0, o1, o2, o3⟩, hown, hb, hsz⟩ := hrel
    by_cases hk2 : k < t.en.length
    · obtain ⟨b, o, rfl, g1, g2, g3, g4, g5⟩ := h.below hb (Nat.le_refl _) k hk2
      clear h
      have HO : Hid (wr.ownsRow (w.heap.size + 3) 50 5 v k (flatE (t.en.take k))) := hown
      clear hown
      have o2' : (wr.alloc (Obj.cells #[.int .i64 t.en[k].k, .string t.en[k].nm, .string t.en[k].md, .int .i64 t.en[k].lf, .int .i64 t.en[k].tg] 81)).cell? ⟨w.heap.size + 1 + 1, 2, none⟩ = some v := by
        rw [World.cell?_alloc_past _ _ _ (by omega)]; exact o2
      go_wp2_with (first | (at_builtin; refine wpList_append_own _ rfl _ _ 44 rfl (w.heap.size + 3) 50 i0 (.agg #[.int .i64 0, .string .empty, .string .empty, .int .i64 0, .int .i64 0]) 5 56 Tryz.underlying44 hi hz0 hz1 hz2 rfl (by decide) _ _ _ rfl ((HO.out.alloc _).alloc _) ⟨wr.heap.size + 1, 0, none⟩ 1 1 [.int .i64 t.en[k].k, .string t.en[k].nm, .string t.en[k].md, .int .i64 t.en[k].lf, .int .i64 t.en[k].tg] rfl rfl (fun j u hj => new_cells (by simp) j u hj) (fun u hu => by simp at hu; rcases hu with rfl | rfl | rfl | rfl | rfl <;> rfl) (by unfold maxLen; omega) (by omega) (by simp; omega) ?_; intro v' w4 hown4 hgrow4 _; obtain ⟨av4, cv4, rfl⟩ := owns_slice hown4; have hb4 : Below (w.heap.size + 3) wr w4 := (((Below.refl _ wr).alloc hsz _).alloc (by simp; omega) _).grown hgrow4 (by simp; omega) (fun q hq => (HO.out.lt q hq).1); have p0 := (hb4.cell (p := ⟨w.heap.size + 1 + 1, 2, none⟩) (by simp)).trans o2; have p1 := (hb4.frozen (p := ⟨w.heap.size + 1 + 1, 2, none⟩) (by simp)).trans o3) | go_in)
      have hB2 : Below (w.heap.size + 1 + 1) wr (w4.setCell ⟨w.heap.size + 1 + 1, 2, none⟩ (.slice av4 (k + 1) cv4)) := (hb4.mono (show w.heap.size + 1 + 1 ≤ w.heap.size + 3 by omega)).setCell (Nat.le_refl _) _
      have hB1 : Below w.heap.size w (w4.setCell ⟨w.heap.size + 1 + 1, 2, none⟩ (.slice av4 (k + 1) cv4)) := hb.trans (hB2.mono (by omega))
      have q0 := (hb4.cell (p := ⟨w.heap.size + 1 + 1, 0, none⟩) (by simp)).trans o0
      have q1 := (hb4.cell (p := ⟨w.heap.size + 1 + 1, 1, none⟩) (by simp)).trans o1
      have hsz4 := hb4.size
      go_roundw
      case rel =>
        refine ⟨k + 1, .slice av4 (k + 1) cv4, by omega, by go_num, (hB2.cell (p := ⟨w.heap.size, 2, none⟩) (show w.heap.size < w.heap.size + 1 + 1 by omega)).trans hx,
          ⟨(hB2.cell (p := ⟨w.heap.size + 1, 0, none⟩) (by simp)).trans r0, (hB2.cell (p := ⟨w.heap.size + 1, 1, none⟩) (by simp)).trans r1, (hB2.cell (p := ⟨w.heap.size + 1, 2, none⟩) (by simp)).trans r2⟩,
          ⟨(hB2.frozen (p := ⟨w.heap.size + 1, 0, none⟩) (by simp)).trans f0, (hB2.frozen (p := ⟨w.heap.size + 1, 1, none⟩) (by simp)).trans f1, (hB2.frozen (p := ⟨w.heap.size + 1, 2, none⟩) (by simp)).trans f2⟩,
          ⟨(World.cell?_setCell_other _ _ _ _ (by simp)).trans q0, (World.cell?_setCell_other _ _ _ _ (by simp)).trans q1, World.cell?_setCell_same _ _ _ p0, (World.frozen?_setCell _ _ _ _).trans p1⟩, ?_, hB1, by simp; omega⟩
        rw [List.take_succ_eq_append_getElem hk2, flatE_snoc]
        exact ownsRow_setCell_below hown4 (by simp) _
      case measure => simp [intOf]; omega
    · obtain ⟨av, cv, rfl⟩ := owns_slice hown
      have HO : Hid (wr.ownsRow (w.heap.size + 3) 50 5 (.slice av k cv) k (flatE (t.en.take k))) := hown
      clear hown
      go_wp2
      have s0 : (wr.setCell ⟨w.heap.size + 1, 0, none⟩ (.string t.nm)).cell? ⟨w.heap.size + 1, 0, none⟩ = some (.string t.nm) := World.cell?_setCell_same _ _ _ r0
      have s1 : ((wr.setCell ⟨w.heap.size + 1, 0, none⟩ (.string t.nm)).setCell ⟨w.heap.size + 1, 1, none⟩ (.slice a1 t.im.length c1)).cell? ⟨w.heap.size + 1, 1, none⟩ = some (.slice a1 t.im.length c1) := World.cell?_setCell_same _ _ _ ((World.cell?_setCell_other _ _ _ _ (by simp)).trans r1)
      have s2 : (((wr.setCell ⟨w.heap.size + 1, 0, none⟩ (.string t.nm)).setCell ⟨w.heap.size + 1, 1, none⟩ (.slice a1 t.im.length c1)).setCell ⟨w.heap.size + 1, 2, none⟩ (.slice av k cv)).cell? ⟨w.heap.size + 1, 2, none⟩ = some (.slice av k cv) := World.cell?_setCell_same _ _ _ ((World.cell?_setCell_other _ _ _ _ (by simp)).trans ((World.cell?_setCell_other _ _ _ _ (by simp)).trans r2))
      refine bodyPost_ret (v := .agg #[.string t.nm, .slice a1 t.im.length c1, .slice av k cv]) (by simp [results, Tryz.results19, go_sem, s0, s1, s2]) rfl ?_
      have hkn : k = t.en.length := by omega
      subst hkn
      have HO2 := HO.out
      rw [List.take_length] at HO2
      have E := owns_ents (ownsRow_setCell_below (ownsRow_setCell_below (ownsRow_setCell_below HO2 (a := ⟨w.heap.size + 1, 0, none⟩) (by simp) (.string t.nm)) (a := ⟨w.heap.size + 1, 1, none⟩) (by simp) (.slice a1 t.im.length c1)) (a := ⟨w.heap.size + 1, 2, none⟩) (by simp) (.slice av t.en.length cv))
      exact ⟨_, rfl, ⟨av, cv, rfl, E.1, fun b o e => by have := E.2.2 b o e; omega⟩, ((hb.setCell (by simp) _).setCell (by simp) _).setCell (by simp) _⟩
end Go.Proofs.YtdmjlimmllhhoaaGreatDoor

namespace Go.Proofs.YtdmjlimmllhhoaaGreatDoor
open Go Go.RowKit
set_option maxRecDepth 100000
set_option maxHeartbeats 1000000

def Apart (v : Value) (a : Option Addr) (n : Nat) : Prop := 0 < n → ∀ b o, a = some ⟨b, o, none⟩ → some b ≠ v.ownBlock

def RowOK (w : World) (v : Value) (xs : List Value) (l : List Tab) : Prop := ∀ j t, l[j]? = some t → ∃ a1 c1 a2 c2, xs[j * 3]? = some (.string t.nm) ∧ xs[j * 3 + 1]? = some (.slice a1 t.im.length c1) ∧
  StrsAt w a1 t.im ∧ Apart v a1 t.im.length ∧ xs[j * 3 + 2]? = some (.slice a2 t.en.length c2) ∧ EntsAt w a2 t.en ∧ Apart v a2 t.en.length

theorem StrsAt.grown {w w' : World} {v : Value} {a : Option Addr} {l : List ByteArray} (h : StrsAt w a l) (hg : w.grownBy w' v.ownBlock) (hd : Apart v a l.length) : StrsAt w' a l := by
  intro i hi
  obtain ⟨b, o, e, h1⟩ := h i hi
  exact ⟨b, o, e, hg.cell h1 (hd (by omega) b o e)⟩

theorem EntsAt.grown {w w' : World} {v : Value} {a : Option Addr} {l : List Ent} (h : EntsAt w a l) (hg : w.grownBy w' v.ownBlock) (hd : Apart v a l.length) : EntsAt w' a l := by
  intro i hi
  obtain ⟨b, o, e, h1, h2, h3, h4, h5⟩ := h i hi
  have := hd (by omega) b o e
  exact ⟨b, o, e, hg.cell h1 this, hg.cell h2 this, hg.cell h3 this, hg.cell h4 this, hg.cell h5 this⟩

theorem StrsAt.lt {w : World} {a : Option Addr} {l : List ByteArray} (h : StrsAt w a l) (hl : 0 < l.length) {b o : Nat} (e : a = some ⟨b, o, none⟩) : b < w.heap.size := by
  obtain ⟨b', o', e', h1⟩ := h 0 hl
  rw [e] at e'; cases e'
  exact cell_lt h1

theorem EntsAt.lt {w : World} {a : Option Addr} {l : List Ent} (h : EntsAt w a l) (hl : 0 < l.length) {b o : Nat} (e : a = some ⟨b, o, none⟩) : b < w.heap.size := by
  obtain ⟨b', o', e', h1, _⟩ := h 0 hl
  rw [e] at e'; cases e'
  exact cell_lt h1

theorem rows_step {w wr w1 w4 : World} {B n : Nat} {v v' : Value} {xs : List Value} {l : List Tab} {t : Tab} {a1 a3 : Option Addr} {c1 c3 : Nat} {X : Obj}
    (hR : RowOK wr v xs l) (hown : wr.ownsRow B 46 3 v n xs) (hn : n = l.length) (hb1 : Below wr.heap.size wr w1) (hg : (w1.alloc X).grownBy w4 v.ownBlock) (hloc : v'.ownBlock = v.ownBlock ∨ v'.ownBlock = some (w1.alloc X).heap.size)
    (hB : w.heap.size = B) (hw : Below B w wr) (hs : StrsAt w a1 t.im) (he : EntsAt w1 a3 t.en) (hge : ∀ b o, a3 = some ⟨b, o, none⟩ → wr.heap.size ≤ b) :
    RowOK w4 v' (xs ++ [.string t.nm, .slice a1 t.im.length c1, .slice a3 t.en.length c3]) (l ++ [t]) := by
  have hlen : xs.length = l.length * 3 := by rw [hown.1, hn]
  have hs1 := hb1.size
  have hws := hw.size
  have hal : (w1.alloc X).heap.size = w1.heap.size + 1 := by simp
  have hba : Below w1.heap.size w1 (w1.alloc X) := (Below.refl _ _).alloc (Nat.le_refl _) X
  have newAp : ∀ {a : Option Addr} {m : Nat}, Apart v a m → (∀ b o, 0 < m → a = some ⟨b, o, none⟩ → b < w1.heap.size) → Apart v' a m := by
    intro a m h1 h2 hm b o e
    rcases hloc with q | q
    · rw [q]; exact h1 hm b o e
    · rw [q, hal]
      have := h2 b o hm e
      intro c; injection c with c; omega
  intro j u hj
  by_cases hjl : j < l.length
  · rw [List.getElem?_append_left hjl] at hj
    obtain ⟨b1, d1, b2, d2, e1, e2, e3, e4, e5, e6, e7⟩ := hR j u hj
    have s3 : StrsAt (w1.alloc X) b1 u.im := (e3.below hb1 (Nat.le_refl _)).below hba (Nat.le_refl _)
    have s6 : EntsAt (w1.alloc X) b2 u.en := (e6.below hb1 (Nat.le_refl _)).below hba (Nat.le_refl _)
    refine ⟨b1, d1, b2, d2, ?_, ?_, s3.grown hg e4, newAp e4 fun b o hm e => ?_, ?_, s6.grown hg e7, newAp e7 fun b o hm e => ?_⟩
    · rw [List.getElem?_append_left (by omega)]; exact e1
    · rw [List.getElem?_append_left (by omega)]; exact e2
    · have := e3.lt hm e; omega
    · rw [List.getElem?_append_left (by omega)]; exact e5
    · have := e6.lt hm e; omega
  · rw [List.getElem?_append_right (by omega)] at hj
    have hj0 : j = l.length := by
      have := (List.getElem?_eq_some_iff.1 hj).1
      simp at this; omega
    subst hj0
    simp only [Nat.sub_self, List.getElem?_cons_zero, Option.some.injEq] at hj
    subst hj
    have hlt := hown.lt
    have hsr : StrsAt wr a1 t.im := hs.below hw (by omega)
    have p1 : Apart v a1 t.im.length := by
      intro hm b o e c
      have h1 := (hlt b c.symm).1
      have h2 := hs.lt hm e
      omega
    have p3 : Apart v a3 t.en.length := by
      intro hm b o e c
      have h1 := (hlt b c.symm).2
      have h2 := hge b o e
      omega
    have s3 : StrsAt (w1.alloc X) a1 t.im := (hsr.below hb1 (Nat.le_refl _)).below hba (Nat.le_refl _)
    have s6 : EntsAt (w1.alloc X) a3 t.en := he.below hba (Nat.le_refl _)
    refine ⟨a1, c1, a3, c3, ?_, ?_, s3.grown hg p1, newAp p1 fun b o hm e => ?_, ?_, s6.grown hg p3, newAp p3 fun b o hm e => he.lt hm e⟩
    · rw [List.getElem?_append_right (by omega), hlen]; simp
    · rw [List.getElem?_append_right (by omega), hlen]; simp
    · have := hsr.lt hm e; omega
    · rw [List.getElem?_append_right (by omega), hlen]; simp

theorem tabs_of {w : World} {B n : Nat} {a : Option Addr} {c : Nat} {xs : List Value} {l : List Tab} (hR : RowOK w (.slice a n c) xs l) (hown : w.ownsRow B 46 3 (.slice a n c) n xs) (hn : n = l.length) : TabsAt w a l := by
  intro i hi
  obtain ⟨b1, d1, b2, d2, e1, e2, e3, e4, e5, e6, e7⟩ := hR i l[i] (List.getElem?_eq_getElem hi)
  rcases hown.2 with ⟨h1, h2⟩ | ⟨g, cap, cur, h1, h3⟩
  · omega
  · have h1' := h1
    simp only [Value.slice.injEq, true_and] at h1'
    obtain ⟨rfl, rfl⟩ := h1'
    refine ⟨g, 0, b1, d1, b2, d2, rfl, ?_, ?_, e3, ?_, e6⟩
    · rw [Nat.zero_add, hown.cellAt _ (by omega)]; exact e1
    · rw [Nat.zero_add, hown.cellAt _ (by omega)]; exact e2
    · rw [Nat.zero_add, hown.cellAt _ (by omega)]; exact e5

theorem owns_below {w w' : World} {base n size : Nat} {e : TypeId} {v : Value} {xs : List Value} (h : w.ownsRow base e size v n xs) (hb : Below w.heap.size w w') : w'.ownsRow base e size v n xs := by
  have hg : w.grownBy w' none := ⟨hb.os, hb.tape, hb.output, hb.size, fun q hq _ => hb.block q hq⟩
  refine h.kept hg ?_
  cases hv : v.ownBlock with
  | none => exact .inl rfl
  | some b => exact .inr (by simp)

theorem all8 (l : List Tab) (a : Option Addr) (cap : Nat) (w : World) (hl : l.length ≤ 10) (hs : ∀ j (hj : j < l.length), l[j].im.length ≤ 12 ∧ l[j].en.length ≤ 60) (h : TabsAt w a l) :
    Calls Tryz.prog 8 #[.slice a l.length cap] w fun e w' => ∃ a' c', e = .returned (.slice a' l.length c') ∧ TabsAt w' a' l ∧ Below w.heap.size w w' := by
  obtain ⟨i0, hi, hz0, hz1, hz2⟩ := info_parts Tryz.info46
  go_enter Tryz.func8, Tryz.ntmps8
  go_wp2
  go_loopw [3, 4] (fun v q wr => ∃ (k : Nat) (xs : List Value), k ≤ l.length ∧ q = .int .i64 k ∧ wr.ownsRow w.heap.size 46 3 v k xs ∧ RowOK wr v xs (l.take k) ∧ Below w.heap.size w wr)
    (fun _ q _ => l.length - (intOf q).toNat)
  case atStart => exact ⟨0, [], Nat.zero_le _, rfl, World.ownsRow_nil _ _ _ _, fun j t hj => (by simp at hj), Below.refl _ _⟩
  case round =>
    obtain ⟨k, xs, hk, rfl, hown, hR, hb⟩ := hrel
    by_cases hk2 : k < l.length
    · obtain ⟨b, o, a1, c1, a2, c2, rfl, h1, h2, h3, h4, h5⟩ := h k hk2
      have g1 := cell_below hb (Nat.le_refl _) h1
      have g2 := cell_below hb (Nat.le_refl _) h2
      have g4 := cell_below hb (Nat.le_refl _) h4
      have HS : Hid (StrsAt w a1 l[k].im) := h3
      have HE : Hid (EntsAt wr a2 l[k].en) := h5.below hb (Nat.le_refl _)
      obtain ⟨av, cv, rfl⟩ := owns_slice hown
      have HR : Hid (RowOK wr (.slice av k cv) xs (l.take k)) := hR
      have HO : Hid (wr.ownsRow w.heap.size 46 3 (.slice av k cv) k xs) := hown
      have HL := hs k hk2
      have hsz := hb.size
      clear hown hR h h1 h2 h3 h4 h5
      go_wp2_with (first | (go_at_call 19; refine (from19 l[k] a1 a2 c1 c2 wr HL.2 HE.out).mono ?_; rintro e w1 ⟨v3, rfl, ⟨a3, c3, rfl, he3, hge3⟩, hb1⟩; have HO1 : Hid (w1.ownsRow w.heap.size 46 3 (.slice av k cv) k xs) := owns_below HO.out hb1) | (at_builtin; refine wpList_append_own_at _ rfl _ _ 29 rfl w.heap.size 46 i0 (.agg #[.string .empty, .slice none 0 0, .slice none 0 0]) 3 64 Tryz.underlying29 hi hz0 hz1 hz2 rfl (by decide) _ _ _ rfl (HO1.out.alloc _) ⟨w1.heap.size, 0, none⟩ 1 1 [.string l[k].nm, .slice a1 l[k].im.length c1, .slice a3 l[k].en.length c3] rfl rfl (fun j u hj => new_cells (by simp) j u hj) (fun u hu => by simp at hu; rcases hu with rfl | rfl | rfl <;> rfl) (by unfold maxLen; omega) (by omega) (by simp; have := hb1.size; omega) ?_; intro v' w4 hown4 hgrow4 _ hloc4) | go_in)
      have R := rows_step (c1 := c1) (c3 := c3) HR.out HO.out (by simp; omega) hb1 hgrow4 hloc4 rfl hb HS.out he3 hge3
      have hz := hb1.size
      have hB : Below w.heap.size w w4 := ((hb.trans (hb1.mono hsz)).alloc (by omega) _).grown hgrow4 (by simp; omega) (fun q hq => (HO.out.lt q hq).1)
      clear hgrow4 hloc4
      go_roundw
      case rel => exact ⟨k + 1, _, by omega, by go_num, hown4, by rw [List.take_succ_eq_append_getElem hk2]; exact R, hB⟩
      case measure => simp [intOf]; omega
    · obtain ⟨av, cv, rfl⟩ := owns_slice hown
      have hkn : k = l.length := by omega
      subst hkn
      rw [List.take_length] at hR
      have HT : Hid (TabsAt wr av l) := tabs_of hR hown rfl
      clear hown hR h
      go_wp2
      go_ret
      exact ⟨av, cv, rfl, HT.out, hb⟩
end Go.Proofs.YtdmjlimmllhhoaaGreatDoor

