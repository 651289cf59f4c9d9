/- Law 25: walks of what its laws call, part 4: scope.Order: each computes what the plain functions named here say. Conditions: the tables lie in memory as the views say, and are small. -/
import Derived.Test.YtdmjlimmllhhoaaGreatDoorSc3
namespace Go.Proofs.YtdmjlimmllhhoaaGreatDoor
open Go Go.RowKit Go.Maps Go.WideMaps
set_option maxRecDepth 100000
set_option maxHeartbeats 2000000

structure In7 (w : World) (l : List Tab) (a : Option Addr) (cap p1 p5 bm : Nat) : Prop where
  c1 : w.cell? ⟨p1, 0, none⟩ = some (.slice a l.length cap)
  c5 : w.cell? ⟨p5, 0, none⟩ = some (.map (some bm))
  own : w.ownsMap Tryz.prog 9 (plainElem Tryz.prog 3) bm l.length (mapD l l.length)
  tabs : TabsAt w a l

theorem In7.below {w w' : World} {l : List Tab} {a : Option Addr} {cap p1 p5 bm n : Nat} (h : In7 w l a cap p1 p5 bm) (hb : Below n w w') (hn : w.heap.size ≤ n) : In7 w' l a cap p1 p5 bm :=
  ⟨cell_below hb hn h.c1, cell_below hb hn h.c5, owns_map_below h.own hb hn, h.tabs.below hb hn⟩

theorem badE_eq {l : List Tab} {e : Ent} : badE l e = (e.k == 4 && !(offerB l e.md e.nm)) := by
  unfold badE offerB
  cases hq : ixOf l e.md with
  | none => rfl
  | some m =>
    have hm := ixOf_lt hq
    show (e.k == 4 && (match l[m]? with | some t => !offersB t e.nm | none => true)) = (e.k == 4 && !(offersB (tabAt l m) e.nm))
    rw [List.getElem?_eq_getElem hm, tabAt_eq hm]

theorem order7 (l : List Tab) (a : Option Addr) (cap : Nat) (w : World) (hl : l.length ≤ 10) (hs : ∀ j (hj : j < l.length), l[j].im.length ≤ 12 ∧ l[j].en.length ≤ 60)
    (hz : ∀ j (hj : j < l.length), l[j].nm.size ≤ maxLen ∧ (∀ i (hi : i < l[j].im.length), l[j].im[i].size ≤ maxLen) ∧ ∀ i (hi : i < l[j].en.length), l[j].en[i].md.size ≤ maxLen) (h : TabsAt w a l) :
    Calls Tryz.prog 7 #[.slice a l.length cap] w fun e w' => ∃ v, e = .returned (.tuple #[v, .int .i64 (ordOf l).2.1, .int .i64 (ordOf l).2.2]) ∧ OutAt w' v (ordOf l).1 ∧ Below w.heap.size w w' := by
  obtain ⟨i0, hi, hz0, hz1, hz2⟩ := info_parts Tryz.info3
  have hmk := run_make_row' (P := Tryz.prog) 34 4 (.bool false) 1 Tryz.underlying34 Tryz.info4 rfl .i64 .i64 l.length (by omega) (by omega)
  have hmm := @run_makeMap Tryz.prog
  have HZ : Hid (∀ j (hj : j < l.length), l[j].nm.size ≤ maxLen ∧ (∀ i (hi : i < l[j].im.length), l[j].im[i].size ≤ maxLen) ∧ ∀ i (hi : i < l[j].en.length), l[j].en[i].md.size ≤ maxLen) := hz
  have HT : Hid (TabsAt w a l) := h
  clear h hz
  go_enter Tryz.func7, Tryz.ntmps7
  go_wp2
  go_loopw [28] (fun q wr => ∃ k : Nat, k ≤ l.length ∧ q = .int .i64 k ∧ (∀ j, j < k → dupB l j = false) ∧ wr.cell? ⟨w.heap.size, 0, none⟩ = some (.slice a l.length cap) ∧ wr.cell? ⟨w.heap.size + 1 + 1, 0, none⟩ = some (.map (some (w.heap.size + 1))) ∧
      wr.ownsMap Tryz.prog 9 (plainElem Tryz.prog 3) (w.heap.size + 1) k (mapD l k) ∧ Below w.heap.size w wr ∧ w.heap.size + 3 ≤ wr.heap.size)
    (fun q _ => l.length - (intOf q).toNat)
  case atStart =>
    exact ⟨0, Nat.zero_le _, rfl, fun j hj => absurd hj (Nat.not_lt_zero _), by go_cell, by go_cell, by rw [show w.heap.size + 1 = (w.alloc (Obj.cells #[Value.slice a l.length cap] 29)).heap.size by simp]; exact (World.ownsMap_made _ _ _ _).alloc _, by go_grown, by simp⟩
  case round =>
    obtain ⟨k, hk, rfl, hn, d1, d5, hown, hb, hsz⟩ := hrel
    by_cases hk2 : k < l.length
    · obtain ⟨b, o, a1, c1, a2, c2, rfl, h1, h2, h3, h4, h5⟩ := HT.out.below hb (Nat.le_refl _) k hk2
      have hkey := keyOf_string_mk (P := Tryz.prog) Tryz.underlying9 (HZ.out k hk2).1
      have hhas := mapD_has (l := l) (s := l[k].nm) (Nat.le_of_lt hk2)
      have d5' : (wr.alloc (Obj.cells #[.string l[k].nm, .slice a1 l[k].im.length c1, .slice a2 l[k].en.length c2] 46)).cell? ⟨w.heap.size + 1 + 1, 0, none⟩ = some (.map (some (w.heap.size + 1))) := by
        rw [World.cell?_alloc_past _ _ _ (by omega)]; exact d5
      have HO : Hid ((wr.alloc (Obj.cells #[.string l[k].nm, .slice a1 l[k].im.length c1, .slice a2 l[k].en.length c2] 46)).ownsMap Tryz.prog 9 (plainElem Tryz.prog 3) (w.heap.size + 1) k (mapD l k)) := hown.alloc _
      have hdup : Maps.has (mapD l k) (klS l[k].nm) = dupB l k := by
        obtain ⟨j, e1, e2⟩ := ixOf_le hk2 (s := l[k].nm) (by rw [tabAt_eq hk2]; simp)
        rw [hhas, e1]
        unfold dupB
        rw [tabAt_eq hk2, findI_some e1]
        simp
      clear h3 h5 hown
      cases hd : dupB l k with
      | true =>
        rw [hd] at hdup
        have he := ordOf_dup hk2 hd hn
        go_wp2_with (first | (at_lookup; refine wpList_lookup_own_ok_int _ rfl _ _ 56 rfl 9 3 .i64 law9 Tryz.underlying56 Tryz.underlying3 (zero3 _) (w.heap.size + 1) k (mapD l k) rfl HO.out _ _ rfl hkey ?_; intro c hat hwc; rw [show (Lit.string l[k].nm.data.toList) = klS l[k].nm from rfl, hdup]; clear hat) | go_in)
        go_ret3
        rw [he]
        exact ⟨_, rfl, OutAt.nil _, hb.alloc (by omega) _⟩
      | false =>
        rw [hd] at hdup
        go_wp2_with (first | (at_lookup; refine wpList_lookup_own_ok_int _ rfl _ _ 56 rfl 9 3 .i64 law9 Tryz.underlying56 Tryz.underlying3 (zero3 _) (w.heap.size + 1) k (mapD l k) rfl HO.out _ _ rfl hkey ?_; intro c hat hwc; rw [show (Lit.string l[k].nm.data.toList) = klS l[k].nm from rfl, hdup]; clear hat) | (at_mapUpdate; refine wpList_mapUpdate_own _ rfl _ _ _ 56 rfl 9 3 law9 Tryz.underlying56 _ (w.heap.size + 1) k _ rfl HO.out (by unfold maxLen; omega) _ _ _ rfl rfl hkey _ [] (plainElem_int Tryz.underlying3 (WalkArith.wf_i64 (by omega))) ?_; intro w1 hown1 hgrow1) | go_in)
        have d1' : (wr.alloc (Obj.cells #[.string l[k].nm, .slice a1 l[k].im.length c1, .slice a2 l[k].en.length c2] 46)).cell? ⟨w.heap.size, 0, none⟩ = some (.slice (some ⟨b, o, none⟩) l.length cap) := by
          rw [World.cell?_alloc_past _ _ _ (by omega)]; exact d1
        have q1 := hgrow1.cell d1' (by simp)
        have q5 := hgrow1.cell d5' (by simp)
        have hg := hgrow1.size
        have hB : Below w.heap.size w w1 := (hb.alloc (by omega) _).grown hgrow1 (by simp; omega) (fun j hj => by cases hj; omega)
        have hmap : (mapD l k).put (Lit.string l[k].nm.data.toList) (.lit (.int .i64 k)) = mapD l (k + 1) := by
          show _ = (mapD l k).put (klS (tabAt l k).nm) _
          rw [tabAt_eq hk2]; rfl
        rw [hmap] at hown1
        clear hgrow1
        go_roundw
        case rel => exact ⟨k + 1, by omega, by go_num, fun j hj => by
          rcases Nat.lt_succ_iff_lt_or_eq.1 hj with q | q
          · exact hn j q
          · subst q; exact hd, q1, q5, hown1, hB, by simp at hg; omega⟩
        case measure => simp [intOf]; omega
    · have hkn : k = l.length := by omega
      subst hkn
      have hsz0 := hb.size
      have I5 : In7 wr l a cap w.heap.size (w.heap.size + 1 + 1) (w.heap.size + 1) := ⟨d1, d5, hown, HT.out.below hb (Nat.le_refl _)⟩
      have HI : Hid (In7 wr l a cap w.heap.size (w.heap.size + 1 + 1) (w.heap.size + 1)) := I5
      have hdup : Hid (∀ j, j < l.length → dupB l j = false) := hn
      have hsz5 : w.heap.size + 3 ≤ wr.heap.size := hsz
      clear hn hown I5
      go_wp2
      rename World => w5
      go_loopw [50] (fun q wr => ∃ k : Nat, k ≤ l.length ∧ q = .int .i64 k ∧ (∀ j, j < k → lacksB l (tabAt l j) = false) ∧ Below w5.heap.size w5 wr)
        (fun q _ => l.length - (intOf q).toNat)
      case atStart => exact ⟨0, Nat.zero_le _, rfl, fun j hj => absurd hj (Nat.not_lt_zero _), Below.refl _ _⟩
      case round =>
        obtain ⟨k, hk, rfl, hn, hb5⟩ := hrel
        have IR := HI.out.below hb5 (Nat.le_refl _)
        have hszr := hb5.size
        by_cases hk2 : k < l.length
        · obtain ⟨b, o, a1, c1, a2, c2, rfl, h1, h2, h3, h4, h5⟩ := IR.tabs k hk2
          have IX := IR.below ((Below.refl wr.heap.size wr).alloc (Nat.le_refl _) (Obj.cells #[.string l[k].nm, .slice a1 l[k].im.length c1, .slice a2 l[k].en.length c2] 46)) (Nat.le_refl _)
          have HX : Hid (In7 (wr.alloc (Obj.cells #[.string l[k].nm, .slice a1 l[k].im.length c1, .slice a2 l[k].en.length c2] 46)) l (some ⟨b, o, none⟩) cap w.heap.size (w.heap.size + 1 + 1) (w.heap.size + 1)) := IX
          have x5 := IX.c5
          have HS : Hid (StrsAt (wr.alloc (Obj.cells #[.string l[k].nm, .slice a1 l[k].im.length c1, .slice a2 l[k].en.length c2] 46)) a1 l[k].im) := h3.below ((Below.refl wr.heap.size wr).alloc (Nat.le_refl _) _) (Nat.le_refl _)
          have HE : Hid (EntsAt (wr.alloc (Obj.cells #[.string l[k].nm, .slice a1 l[k].im.length c1, .slice a2 l[k].en.length c2] 46)) a2 l[k].en) := h5.below ((Below.refl wr.heap.size wr).alloc (Nat.le_refl _) _) (Nat.le_refl _)
          have hsm := hs k hk2
          clear h3 h5 IX IR
          go_wp2
          go_loop [58] (fun q => ∃ m : Nat, m ≤ l[k].im.length ∧ q = .int .i64 m ∧ ∀ j (hj : j < l[k].im.length), j < m → ixOf l l[k].im[j] ≠ none)
            (fun q => l[k].im.length - (intOf q).toNat)
          case atStart => exact ⟨0, Nat.zero_le _, rfl, fun j _ hj => absurd hj (Nat.not_lt_zero _)⟩
          case round =>
            obtain ⟨m, hm, rfl, hnm⟩ := hrel
            by_cases hm2 : m < l[k].im.length
            · obtain ⟨b1, o1, rfl, g1⟩ := HS.out m hm2
              have hkey := keyOf_string_mk (P := Tryz.prog) Tryz.underlying9 ((HZ.out k hk2).2.1 m hm2)
              have hhas := mapD_has (l := l) (s := l[k].im[m]) (Nat.le_refl _)
              cases hq : ixOf l l[k].im[m] with
              | none =>
                have hh : Maps.has (mapD l l.length) (klS l[k].im[m]) = false := by rw [hhas, hq]
                have he := ordOf_lack hdup.out hk2 (by rw [tabAt_eq hk2]; exact lacksB_im hm2 hq) hn
                go_wp2_with (first | (at_lookup; refine wpList_lookup_own_ok_int _ rfl _ _ 56 rfl 9 3 .i64 law9 Tryz.underlying56 Tryz.underlying3 (zero3 _) (w.heap.size + 1) l.length (mapD l l.length) rfl HX.out.own _ _ rfl hkey ?_; intro c hat hwc; rw [show (Lit.string l[k].im[m].data.toList) = klS l[k].im[m] from rfl, hh]; clear hat) | go_in)
                go_ret3
                exact ⟨_, rfl, OutAt.nil _, (hb.trans (hb5.mono hsz0)).alloc (by omega) _⟩
              | some j0 =>
                have hj0 := ixOf_lt hq
                have hh : Maps.has (mapD l l.length) (klS l[k].im[m]) = true := by rw [hhas, hq]; simpa using hj0
                go_wp2_with (first | (at_lookup; refine wpList_lookup_own_ok_int _ rfl _ _ 56 rfl 9 3 .i64 law9 Tryz.underlying56 Tryz.underlying3 (zero3 _) (w.heap.size + 1) l.length (mapD l l.length) rfl HX.out.own _ _ rfl hkey ?_; intro c hat hwc; rw [show (Lit.string l[k].im[m].data.toList) = klS l[k].im[m] from rfl, hh]; clear hat) | go_in)
                go_round
                case rel => exact ⟨m + 1, by omega, by go_num, fun j hj hjm => by
                  rcases Nat.lt_succ_iff_lt_or_eq.1 hjm with q | q
                  · exact hnm j hj q
                  · subst q; rw [hq]; simp⟩
                case measure => simp [intOf]; omega
            · have hnames : Hid (∀ j (hj : j < l[k].im.length), ixOf l l[k].im[j] ≠ none) := fun j hj => hnm j hj (by omega)
              clear hnm
              generalize hW : wr.alloc (Obj.cells #[.string l[k].nm, .slice a1 l[k].im.length c1, .slice a2 l[k].en.length c2] 46) = W at HX HS HE x5 ⊢
              have hbW : Below wr.heap.size wr W := by rw [← hW]; exact (Below.refl _ _).alloc (Nat.le_refl _) _
              have e0 : W.cell? ⟨wr.heap.size, 2, none⟩ = some (.slice a2 l[k].en.length c2) := by rw [← hW, World.cell?_alloc_at _ _ _ _ rfl]; rfl
              have hszW := hbW.size
              have hBW : Below w.heap.size w W := (hb.trans (hb5.mono hsz0)).trans (hbW.mono (by omega))
              have hB5W : Below w5.heap.size w5 W := hb5.trans (hbW.mono hszr)
              have hszB : w.heap.size ≤ W.heap.size := hBW.size
              have hsz5W : w5.heap.size ≤ W.heap.size := hB5W.size
              clear hbW
              go_wp2
              go_loopw [75] (fun q w6 => ∃ m : Nat, m ≤ l[k].en.length ∧ q = .int .i64 m ∧ (∀ j (hj : j < l[k].en.length), j < m → badE l l[k].en[j] = false) ∧ Below W.heap.size W w6)
                (fun q _ => l[k].en.length - (intOf q).toNat)
              case atStart => exact ⟨0, Nat.zero_le _, rfl, fun j _ hj => absurd hj (Nat.not_lt_zero _), Below.refl _ _⟩
              case round =>
                obtain ⟨m, hm, rfl, hbad, hb6⟩ := hrel
                have hs6 := hb6.size
                by_cases hm2 : m < l[k].en.length
                · obtain ⟨b1, o1, rfl, g1, g2, g3, g4, g5⟩ := HE.out.below hb6 (Nat.le_refl _) m hm2
                  have hnext : ∀ {z : Nat}, z = m + 1 → badE l l[k].en[m] = false → ∀ j (hj : j < l[k].en.length), j < z → badE l l[k].en[j] = false := fun e hq j hj hjm => by
                    subst e
                    rcases Nat.lt_succ_iff_lt_or_eq.1 hjm with q | q
                    · exact hbad j hj q
                    · subst q; exact hq
                  by_cases q4 : l[k].en[m].k = 4
                  · have hbY : Below wr.heap.size wr (wr.alloc (Obj.cells #[.int .i64 4, .string l[k].en[m].nm, .string l[k].en[m].md, .int .i64 l[k].en[m].lf, .int .i64 l[k].en[m].tg] 50)) := (Below.refl _ _).alloc (Nat.le_refl _) _
                    have IY := (HX.out.below hb6 (Nat.le_refl _)).below hbY (Nat.le_refl _)
                    have hC := offers13 l l[k].en[m].md l[k].en[m].nm (some ⟨b, o, none⟩) cap (w.heap.size + 1 + 1) w.heap.size (w.heap.size + 1) _ hs ((HZ.out k hk2).2.2 m hm2) hdup.out IY.c5 IY.c1 IY.own IY.tabs
                    clear IY
                    cases hof : offerB l l[k].en[m].md l[k].en[m].nm with
                    | true =>
                      have hbd : badE l l[k].en[m] = false := by rw [badE_eq, hof]; simp
                      rw [hof] at hC
                      go_wp2_with (first | (go_at_call 13; refine hC.mono ?_; rintro e w7 ⟨rfl, hb7⟩) | go_in)
                      go_roundw
                      case rel => exact ⟨m + 1, by omega, by go_num, hnext rfl hbd, hb6.trans ((hbY.trans (hb7.mono hbY.size)).mono hs6)⟩
                      case measure => simp [intOf]; omega
                    | false =>
                      have hbd : badE l l[k].en[m] = true := by rw [badE_eq, hof, q4]; rfl
                      have he := ordOf_lack hdup.out hk2 (by rw [tabAt_eq hk2]; exact lacksB_en hm2 hbd) hn
                      rw [hof] at hC
                      go_wp2_with (first | (go_at_call 13; refine hC.mono ?_; rintro e w7 ⟨rfl, hb7⟩) | go_in)
                      go_ret3
                      try rw [he]
                      exact ⟨_, rfl, OutAt.nil _, hBW.trans ((hb6.trans ((hbY.trans (hb7.mono hbY.size)).mono hs6)).mono hszB)⟩
                  · have hbd : badE l l[k].en[m] = false := by rw [badE_eq]; simp [q4]
                    go_wp2
                    go_roundw
                    case rel => exact ⟨m + 1, by omega, by go_num, hnext rfl hbd, hb6.alloc hs6 _⟩
                    case measure => simp [intOf]; omega
                · have hlk : lacksB l (tabAt l k) = false := by
                    rw [tabAt_eq hk2]
                    exact lacksB_false hnames.out fun j hj => hbad j hj (by omega)
                  go_wp2
                  go_roundw
                  case rel => exact ⟨k + 1, by omega, by go_num, fun j hj => by
                    rcases Nat.lt_succ_iff_lt_or_eq.1 hj with q | q
                    · exact hn j q
                    · subst q; exact hlk, hB5W.trans (hb6.mono hsz5W)⟩
                  case measure => simp [intOf]; omega
        · have c1r := IR.c1
          have hkn : k = l.length := by omega
          subst hkn
          have hlack : Hid (∀ j, j < l.length → lacksB l (tabAt l j) = false) := hn
          have hord : Hid (ordOf l = _) := ordOf_go hdup.out hlack.out
          have HIR : Hid (In7 wr l a cap w.heap.size (w.heap.size + 1 + 1) (w.heap.size + 1)) := IR
          have hBr : Below w.heap.size w wr := hb.trans (hb5.mono hsz0)
          have hszw : w.heap.size + 3 ≤ wr.heap.size := by omega
          have hlit : Hid (((wr.alloc (.cells (madeCells #[Value.bool false] l.length) 4)).alloc (.cells #[.slice (some ⟨wr.heap.size, 0, none⟩) l.length l.length] 34)).ownsRow wr.heap.size 4 1 (.slice (some ⟨wr.heap.size, 0, none⟩) l.length l.length) l.length ((List.replicate l.length false).map Value.bool)) := by
            have := (World.ownsRow_lit (base := wr.heap.size) (e := 4) (size := 1) wr (madeCells #[Value.bool false] l.length) l.length (Nat.le_refl _) (by unfold maxLen; omega) (by simp [madeCells])).alloc (.cells #[.slice (some ⟨wr.heap.size, 0, none⟩) l.length l.length] 34)
            rw [toList_madeCells_one, ← List.map_replicate] at this
            exact this
          have c1a : (wr.alloc (.cells (madeCells #[Value.bool false] l.length) 4)).cell? ⟨w.heap.size, 0, none⟩ = some (.slice a l.length cap) := by
            rw [World.cell?_alloc_past _ _ _ (by omega)]; exact c1r
          clear hn IR hb hb5 hszr hsz0 hsz5 HI d1 d5
          go_wp2
          rename World => w8
          go_loopw [19] (fun v w3 => ∃ (tk : List Bool) (out : List Nat), tk.length = l.length ∧ out.length ≤ l.length ∧ ordGo l (l.length - out.length) tk out = ordGo l l.length (List.replicate l.length false) [] ∧
              w3.ownsRow (w8.heap.size + 2) 3 1 v out.length ((out.map Int.ofNat).map (Value.int .i64)) ∧
              w3.ownsRow w8.heap.size 4 1 (.slice (some ⟨w8.heap.size, 0, none⟩) l.length l.length) l.length (tk.map Value.bool) ∧ w3.cell? ⟨w8.heap.size + 1, 0, none⟩ = some (.slice (some ⟨w8.heap.size, 0, none⟩) l.length l.length) ∧ Below w8.heap.size w8 w3 ∧ w8.heap.size + 2 ≤ w3.heap.size)
            (fun v _ => l.length - lenOf v)
          case atStart => exact ⟨List.replicate l.length false, [], by simp, Nat.zero_le _, rfl, World.ownsRow_nil _ _ _ _, hlit.out, by go_cell, by go_grown, by simp⟩
          case round =>
            obtain ⟨tk, out, ht1, ht2, hgo, hown, htk, hp20, hb3, hs3⟩ := hrel
            obtain ⟨av, cv, rfl⟩ := owns_slice hown
            have HG : Hid (ordGo l (l.length - out.length) tk out = ordGo l l.length (List.replicate l.length false) []) := hgo
            have HO : Hid (wr.ownsRow (w8.heap.size + 2) 3 1 (.slice av out.length cv) out.length ((out.map Int.ofNat).map (Value.int .i64))) := hown
            have HK : Hid (wr.ownsRow w8.heap.size 4 1 (.slice (some ⟨w8.heap.size, 0, none⟩) l.length l.length) l.length (tk.map Value.bool)) := htk
            have HC : Hid (∀ j, j < l.length → wr.cell? ⟨w8.heap.size, j, none⟩ = some (.bool (tk.getD j false))) := fun j hj => by
              rw [htk.cellAt j (by omega), List.getElem?_map, List.getD_eq_getElem?_getD, List.getElem?_eq_getElem (by omega)]; rfl
            have I3 := HIR.out.below hb3 (Nat.le_refl _)
            have H3 : Hid (In7 wr l a cap w.heap.size (w.heap.size + 1 + 1) (w.heap.size + 1)) := I3
            have c1b := I3.c1
            clear hgo hown htk I3
            by_cases hlen : out.length < l.length
            · go_wp2
              go_loopw [21, 104] (fun nx q w6 => ∃ k : Nat, k ≤ l.length ∧ q = .int .i64 k ∧ nx = .int .i64 (-1) ∧ (∀ j, j < k → nextB l tk j = false) ∧ Below wr.heap.size wr w6)
                (fun _ q _ => l.length - (intOf q).toNat)
              case atStart => exact ⟨0, Nat.zero_le _, rfl, rfl, fun j hj => absurd hj (Nat.not_lt_zero _), Below.refl _ _⟩
              case round =>
                obtain ⟨k, hk, rfl, rfl, hnx, hb6⟩ := hrel
                rename World => w6
                have hs6 := hb6.size
                by_cases hk2 : k < l.length
                · obtain ⟨b, o, a1, c1, a2, c2, rfl, h1, h2, h3, h4, h5⟩ := (H3.out.below hb6 (Nat.le_refl _)).tabs k hk2
                  have hbX : Below w6.heap.size w6 (w6.alloc (Obj.cells #[.string l[k].nm, .slice a1 l[k].im.length c1, .slice a2 l[k].en.length c2] 46)) := (Below.refl _ _).alloc (Nat.le_refl _) _
                  have hbWX := hb6.trans (hbX.mono hs6)
                  have IX := H3.out.below hbWX (Nat.le_refl _)
                  have x20 := cell_below hbWX (Nat.le_refl _) hp20
                  have xck := cell_below hbWX (Nat.le_refl _) (HC.out k hk2)
                  have hnext : ∀ {z : Nat}, z = k + 1 → nextB l tk k = false → ∀ j, j < z → nextB l tk j = false := fun e hq j hjm => by
                    subst e
                    rcases Nat.lt_succ_iff_lt_or_eq.1 hjm with q | q
                    · exact hnx j q
                    · subst q; exact hq
                  have hsm := hs k hk2
                  cases htkk : tk.getD k false with
                  | true =>
                    have hnb : nextB l tk k = false := by unfold nextB untB; rw [htkk]; rfl
                    rw [htkk] at xck
                    clear h3 h5 IX
                    go_wp2
                    go_roundw
                    case rel => exact ⟨k + 1, by omega, by go_num, rfl, hnext rfl hnb, hbWX⟩
                    case measure => simp [intOf]; omega
                  | false =>
                    rw [htkk] at xck
                    have hnm0 : ∀ i (hi : i < l[k].im.length), ∃ j, ixOf l l[k].im[i] = some j := lacksB_names (by have := hlack.out k hk2; rw [tabAt_eq hk2] at this; exact this)
                    have hC := containsF16 l tk l[k].im a1 c1 (w8.heap.size + 1) (w.heap.size + 1 + 1) w8.heap.size (w.heap.size + 1) _ ht1 hsm.1 hnm0 ((HZ.out k hk2).2.1) hdup.out (h3.below hbX (Nat.le_refl _)) x20 IX.c5 IX.own (fun j hj => cell_below hbWX (Nat.le_refl _) (HC.out j hj))
                    have hrd : l[k].im.all (tkB l tk) = readyB l tk (tabAt l k) := by rw [tabAt_eq hk2]; rfl
                    rw [hrd] at hC
                    clear h3 h5 IX
                    cases hR : readyB l tk (tabAt l k) with
                    | false =>
                      have hnb : nextB l tk k = false := by unfold nextB; rw [hR, Bool.and_false]
                      rw [hR] at hC
                      go_wp2_with (first | (go_at_call 16; refine hC.mono ?_; rintro e w7 ⟨rfl, rfl⟩) | go_in)
                      go_roundw
                      case rel => exact ⟨k + 1, by omega, by go_num, rfl, hnext rfl hnb, hbWX⟩
                      case measure => simp [intOf]; omega
                    | true =>
                      have hnb : nextB l tk k = true := by unfold nextB untB; rw [hR, htkk]; rfl
                      rw [hR] at hC
                      obtain ⟨f, hfu⟩ : ∃ f, l.length - out.length = f + 1 := ⟨l.length - out.length - 1, by omega⟩
                      have hgo := HG.out
                      rw [hfu, ordGo_some (find_some hk2 hnb hnx)] at hgo
                      have HG2 : Hid _ := hgo
                      clear hgo
                      have HOW : Hid ((w6.alloc (Obj.cells #[.string l[k].nm, .slice a1 l[k].im.length c1, .slice a2 l[k].en.length c2] 46)).ownsRow (w8.heap.size + 2) 3 1 (.slice av out.length cv) out.length ((out.map Int.ofNat).map (Value.int .i64))) := owns_below HO.out hbWX
                      have HKW : Hid ((w6.alloc (Obj.cells #[.string l[k].nm, .slice a1 l[k].im.length c1, .slice a2 l[k].en.length c2] 46)).ownsRow w8.heap.size 4 1 (.slice (some ⟨w8.heap.size, 0, none⟩) l.length l.length) l.length (tk.map Value.bool)) := owns_below HK.out hbWX
                      have hfr := HKW.out.frozenAt k
                      have hst := HKW.out.stored k (.bool true)
                      have HO2 : Hid (((w6.alloc (Obj.cells #[.string l[k].nm, .slice a1 l[k].im.length c1, .slice a2 l[k].en.length c2] 46)).setCell ⟨w8.heap.size, k, none⟩ (.bool true)).ownsRow (w8.heap.size + 2) 3 1 (.slice av out.length cv) out.length ((out.map Int.ofNat).map (Value.int .i64))) := HOW.out.kept hst.2 (.inr fun e => by have := (HOW.out.lt w8.heap.size e).1; omega)
                      have hsW := hbWX.size
                      have hb8W : Below w8.heap.size w8 (w6.alloc (Obj.cells #[.string l[k].nm, .slice a1 l[k].im.length c1, .slice a2 l[k].en.length c2] 46)) := hb3.trans (hbWX.mono hb3.size)
                      clear hst
                      go_wp2_with (first | (go_at_call 16; refine hC.mono ?_; rintro e w7 ⟨rfl, rfl⟩) | (at_builtin; refine wpList_append_own _ rfl _ _ 25 rfl (w8.heap.size + 2) 3 i0 (.int .i64 0) 1 8 Tryz.underlying25 hi hz0 hz1 hz2 rfl (by decide) _ _ _ rfl (HO2.out.alloc _) ⟨w6.heap.size + 1, 0, none⟩ 1 1 [.int .i64 (k : Int)] rfl rfl (fun j u hj => new_cells (by simp) j u hj) (fun u hu => by simp at hu; subst hu; rfl) (by unfold maxLen; omega) (by omega) (by simp; omega) ?_; intro v' w4 hown4 hgrow4 _) | go_in)
                      have R := round_end2 (n := l.length) (by omega) HOW.out HKW.out hown4 hgrow4 hb8W (Nat.le_refl _) (by omega)
                      have p20 := R.2.2.2.2 (w8.heap.size + 1) 0 _ (by omega) (by omega) x20
                      clear hown4 hgrow4
                      obtain ⟨av4, cv4, rfl⟩ := owns_slice R.1
                      go_roundw
                      case rel => exact ⟨tk.set k true, out ++ [k], by simpa using ht1, by simp; omega, by rw [show l.length - (out ++ [k]).length = f by simp; omega]; exact HG2.out, R.1, R.2.1, p20, R.2.2.1, R.2.2.2.1⟩
                      case measure => simp [lenOf]; omega
                · have hkn : k = l.length := by omega
                  subst hkn
                  obtain ⟨f, hfu⟩ : ∃ f, l.length - out.length = f + 1 := ⟨l.length - out.length - 1, by omega⟩
                  have hgo := HG.out
                  rw [hfu, ordGo_none (find_none fun j hj => hnx j hj)] at hgo
                  have hord2 : Hid (ordOf l = _) := hord.out.trans hgo.symm
                  have hC := index18 tk w8.heap.size l.length w6 (by omega) (fun j hj => cell_below hb6 (Nat.le_refl _) (HC.out j (by omega)))
                  rw [ht1] at hC
                  have x20 := cell_below hb6 (Nat.le_refl _) hp20
                  have hsr := hBr.size
                  clear hgo
                  go_wp2_with (first | (go_at_call 18; refine hC.mono ?_; rintro e w7 ⟨rfl, rfl⟩) | go_in)
                  go_ret3
                  rw [hord2.out]
                  exact ⟨_, rfl, OutAt.nil _, hBr.trans ((hb3.trans (hb6.mono hb3.size)).mono hsr)⟩
            · go_wp2
              go_ret3
              have hlen2 : l.length - out.length = 0 := by omega
              have hgo := HG.out
              rw [hlen2] at hgo
              have hord2 : ordOf l = (out, 0, 0) := hord.out.trans hgo.symm
              rw [hord2]
              exact ⟨_, rfl, ⟨av, cv, rfl, (owns_ints HO.out).1⟩, hBr.trans (hb3.mono hBr.size)⟩
end Go.Proofs.YtdmjlimmllhhoaaGreatDoor

