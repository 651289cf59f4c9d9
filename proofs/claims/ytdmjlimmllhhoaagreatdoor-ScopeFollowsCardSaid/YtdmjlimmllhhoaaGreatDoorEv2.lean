/- A verified evaluator of closed calls of a translated program, part 2 of 4: what it says of a call holds of the model for every tape. Conditions: the tables are the program's (EnvOK), and the heap is as it is said to be (HR). -/
import Derived.Test.YtdmjlimmllhhoaaGreatDoorEv1
import Derived.IntWalk
import Derived.Laws.Strings
import Derived.Laws.StructEq
import Derived.Laws.BytesString
import Derived.Lib.UnsafeStr
/- A verified evaluator. Part S8: an append to a slice whose capacity is not known. -/
namespace Go.Ev

theorem viewCells_ok {ρ : Rho} {cs cs0 : T AV} {o m size sh : Nat} {joins : Bool} {c : Array Value} (h : viewCells cs o m joins = .ok cs0)
    (vals : ∀ i v, cs.get i = some v → i < size ∧ ∃ x, c[sh + i]? = some x ∧ VR ρ v x) (hj : joins = true → o + m = size) :
    ∀ i v, cs0.get i = some v → i < m ∧ ∃ x, c[sh + o + i]? = some x ∧ VR ρ v x := by
  have reb : rebase cs o m = .ok cs0 → ∀ i v, cs0.get i = some v → i < m ∧ ∃ x, c[sh + o + i]? = some x ∧ VR ρ v x := by
    intro h i v hi
    unfold rebase at h
    cases e : getCells cs o m with
    | bad w => rw [e] at h; cases h
    | ok l =>
      rw [e] at h
      cases h
      obtain ⟨hlen, hget⟩ := getCells_ok cs m o l e
      rw [T.get_ofList, T.get_nil] at hi
      by_cases q : 0 ≤ i ∧ i < 0 + l.length
      · rw [if_pos q] at hi
        have him : i < m := by omega
        have h2 := hget i him
        rw [show i - 0 = i by omega] at hi
        rw [hi] at h2
        obtain ⟨_, x, a, b⟩ := vals (o + i) v h2
        exact ⟨him, x, by rw [Nat.add_assoc]; exact a, b⟩
      · rw [if_neg q] at hi; cases hi
  unfold viewCells at h
  split at h
  · cases h
    intro i v hi
    obtain ⟨a, x, p, q⟩ := vals i v hi
    exact ⟨by have := hj rfl; omega, x, by simpa using p, q⟩
  · exact reb h

theorem view_vals {ρ : Rho} {cs0 : T AV} {k0 : Nat} {new : List AV} {cnew : List Value} (hv : VRs ρ new cnew) {t u : Nat → Option Value}
    (h0 : ∀ i v, cs0.get i = some v → i < k0 ∧ ∃ x, t i = some x ∧ VR ρ v x)
    (hu : ∀ i, i < k0 → u i = t i) (hu2 : ∀ i, i < new.length → u (k0 + i) = cnew[i]?) :
    ∀ i v, (setCells cs0 k0 new).get i = some v → i < k0 + new.length ∧ ∃ x, u i = some x ∧ VR ρ v x := by
  intro i v hi
  have hi' : (T.ofList cs0 k0 new).get i = some v := hi
  rw [T.get_ofList] at hi'
  by_cases q : k0 ≤ i ∧ i < k0 + new.length
  · rw [if_pos q] at hi'
    obtain ⟨x, a, b⟩ := hv.get hi'
    refine ⟨q.2, x, ?_, b⟩
    have := hu2 (i - k0) (by omega)
    rw [show k0 + (i - k0) = i by omega] at this
    rw [this]; exact a
  · rw [if_neg q] at hi'
    obtain ⟨a, x, p, r⟩ := h0 i v hi'
    exact ⟨by omega, x, (hu i a).trans p, r⟩

/- The real slice, where it is not empty of room, lies where the view says. -/
structure GrownAt (ρ : Rho) (S : St) (w : World) (b o sLen cap es : Nat) (a : Addr) (L : Loc) (cs : T AV) (size : Nat) (elem : TypeId) (g fr : Nat) (plain : Bool) (c : Array Value) (f : Nat × Nat) : Prop where
  hb : S.heap.get b = some (.cells cs size elem false g fr plain)
  hL : ρ.loc b = some L
  at_ : w.heap[L.blk]? = some (.cells c elem f)
  hN : c.size = L.N
  hsz : L.sh + size ≤ L.N
  vals : ∀ i v, cs.get i = some v → i < size ∧ ∃ x, c[L.sh + i]? = some x ∧ VR ρ v x
  frz : frozenOk L fr plain L.N f
  len : sLen ≤ cap
  addr : cap = 0 ∨ a = ⟨L.blk, L.sh + o, none⟩
  room : cap = 0 ∨ L.sh + o + cap * es ≤ L.N

theorem or_blk {ρ : Rho} {h : Array Obj} {o : AObj} {L : Loc} (H : OR ρ h o L) : L.blk < h.size := H.lt

/- In place. -/
theorem view_inplace {P : Program} {ρ : Rho} {S : St} {w : World} (H : HR ρ S w.heap) {b o sLen cap es n : Nat} {a : Addr} {L : Loc} {cs cs0 : T AV} {size : Nat} {elem : TypeId} {g fr : Nat} {plain : Bool} {c : Array Value} {f : Nat × Nat}
    (G : GrownAt ρ S w b o sLen cap es a L cs size elem g fr plain c f) {new : List AV} {cnew : List Value} (hv : VRs ρ new cnew) (hlen : new.length = n * es) (hcell : new.all isCell = true)
    (hfr : fr ≤ o + sLen * es) (hn : 0 < n) (hcap : sLen + n ≤ cap) {joins : Bool} (hj : joins = Nat.beq (o + sLen * es) size) (h0 : viewCells cs o (sLen * es) joins = .ok cs0) :
    ∃ ρ' w', (storeCells (a.add (sLen * es)) cnew 0).run P w = .ok () w' ∧ VR ρ' (grownView S b g o sLen es cs0 new n elem fr (plainAt0 o plain) joins).1 (.slice (some a) (sLen + n) cap) ∧
      Ext ρ S w.heap ρ' (grownView S b g o sLen es cs0 new n elem fr (plainAt0 o plain) joins).2 w'.heap ∧ SameOs w w' := by
  have hcap0 : cap ≠ 0 := by omega
  have ha : a = ⟨L.blk, L.sh + o, none⟩ := G.addr.resolve_left hcap0
  have hroom : L.sh + o + cap * es ≤ L.N := G.room.resolve_left hcap0
  have hmul : (sLen + n) * es ≤ cap * es := Nat.mul_le_mul_right _ hcap
  have hmul2 : (sLen + n) * es = sLen * es + n * es := Nat.add_mul _ _ _
  have hcl : cnew.length = n * es := by rw [← hlen]; exact hv.length.symm
  have hN := G.hN
  have hone : ∀ x ∈ cnew, x.oneCell' = true := by
    have key : ∀ (l : List AV) (m : List Value), VRs ρ l m → l.all isCell = true → ∀ x ∈ m, x.oneCell' = true := by
      intro l
      induction l with
      | nil => intro m hm _ x hx; cases hm; cases hx
      | cons y l ih =>
        intro m hm ha x hx
        cases hm with
        | cons h hs =>
          simp only [List.all_cons, Bool.and_eq_true] at ha
          cases hx with
          | head => exact isCell_one h ha.1
          | tail _ hx => exact ih _ hs ha.2 x hx
    exact key new cnew hv hcell
  obtain ⟨w', r1, r2, ro⟩ := run_storeCells P cnew w L.blk (L.sh + o + sLen * es) 0 c elem f G.at_ (by omega)
    (fun j p q => by
      rintro ⟨c1, c2⟩
      rcases G.frz.1 j c1 c2 with d | d <;> omega) hone
  have hL0 : L.blk < w.heap.size := (OR.cells G.at_ hN G.hsz G.vals G.frz : OR ρ w.heap (.cells cs size elem false g fr plain) L).lt
  have hsize : w'.heap.size = w.heap.size := by rw [r2]; simp
  have hat : ∀ k, w'.heap[k]? = if k = L.blk then some (.cells (setArr c (L.sh + o + sLen * es + 0) cnew) elem f) else w.heap[k]? := by
    intro k; rw [r2, Array.getElem?_setIfInBounds]
    by_cases e : L.blk = k
    · subst e; rw [if_pos rfl, if_pos rfl, if_pos hL0]
    · rw [if_neg e, if_neg (fun x => e x.symm)]
  obtain ⟨eA, hbA, hnA, haloneA, hsubA⟩ := Ext.alone H b g
  have hbA' := hbA.trans G.hb
  have hget : ∀ i, i < sLen * es → (setArr c (L.sh + o + sLen * es + 0) cnew)[L.sh + o + i]? = c[L.sh + o + i]? := by
    intro i hi; rw [setArr_get _ _ _ _ (by omega), if_neg (by omega)]
  have hget2 : ∀ i, i < new.length → (setArr c (L.sh + o + sLen * es + 0) cnew)[L.sh + o + (sLen * es + i)]? = cnew[i]? := by
    intro i hi
    rw [setArr_get _ _ _ _ (by omega), if_pos (by omega)]
    congr 1; omega
  have vals0 := viewCells_ok (sh := L.sh) h0 G.vals (fun e => by rw [e] at hj; exact Nat.eq_of_beq_eq_true hj.symm)
  have vals1 := view_vals (k0 := sLen * es) hv (t := fun i => c[L.sh + o + i]?) (u := fun i => (setArr c (L.sh + o + sLen * es + 0) cnew)[L.sh + o + i]?) vals0 hget hget2
  have hmt : ∀ M : Loc, MapTurn w.heap[M.blk]? w'.heap[M.blk]? := by
    intro M; rw [hat]
    by_cases e : M.blk = L.blk
    · rw [if_pos e]; exact .cells
    · rw [if_neg e]; exact .inl rfl
  have others : ∀ b2 o2 L2, b2 ≠ b → (S.alone b g).heap.get b2 = some o2 → ρ.loc b2 = some L2 → L2.blk ≠ L.blk := by
    intro b2 o2 L2 hne h2 hl2 heq
    rcases eA.hr.inj b2 b o2 _ L2 L h2 hbA' hl2 G.hL heq with e | ⟨g', g1, g2⟩
    · exact hne e
    · have : some g = some g' := g2
      injection this with this; subst this
      exact haloneA _ G.hb rfl b2 o2 hne h2 g1
  have hX : ∀ gg, OR (ρ.add S.next ⟨L.blk, L.sh + o, L.N⟩) w'.heap (viewObj cs0 es sLen new n elem gg (fr - o) (plainAt0 o plain)) ⟨L.blk, L.sh + o, L.N⟩ := by
    intro gg
    have hle := Rho.add_le (L := ⟨L.blk, L.sh + o, L.N⟩) (H.next _ (Nat.le_refl _))
    refine .cells (c := setArr c (L.sh + o + sLen * es + 0) cnew) (f := f) ?_ (by rw [setArr_size]; exact hN) (by show L.sh + o + (sLen + n) * es ≤ L.N; omega) ?_ ?_
    · rw [hat, if_pos rfl]
    · intro i v hi
      obtain ⟨p, x, q, r⟩ := vals1 i v hi
      exact ⟨by rw [hmul2, ← hlen]; exact p, x, q, r.mono hle⟩
    · refine ⟨fun j p q => ?_, fun h => ?_, fun h => ?_⟩
      · rcases G.frz.1 j p q with d | d
        · exact .inl (by show j < L.sh + o + (fr - o); omega)
        · exact .inr d
      · cases o with
        | zero => exact G.frz.2.1 h
        | succ o => cases h
      · have := G.frz.2.2 (by omega)
        show f.2 ≤ L.sh + o + (fr - o)
        omega
  refine ⟨ρ.add S.next ⟨L.blk, L.sh + o, L.N⟩, w', ?_, ?_, ?_, ro⟩
  · rw [ha, Addr.add_none]; exact r1
  · have : VR (ρ.add S.next ⟨L.blk, L.sh + o, L.N⟩) (.slice S.next 0 (sLen + n) (.grown es)) (.slice (some a) (sLen + n) cap) :=
      .slice Rho.add_at ⟨hcap, .inr (by rw [ha]; rfl), .inr (by show L.sh + o + 0 + cap * es ≤ L.N; omega)⟩
    unfold grownView
    cases joins <;> exact this
  · cases joins with
    | true =>
      have hend : o + sLen * es = size := Nat.eq_of_beq_eq_true hj.symm
      have eB : Ext ρ (S.alone b g) w.heap ρ ((S.alone b g).setGrp g [S.next, b]) w.heap := by
        have : ∃ gr, (S.alone b g).setGrp g [S.next, b] = ⟨(S.alone b g).heap, (S.alone b g).next, gr, (S.alone b g).log⟩ ∧ gr.get g = some [S.next, b] ∧ ∀ k, k ≠ g → gr.get k = (S.alone b g).grp.get k := by
          generalize S.alone b g = S'
          obtain ⟨hp, nx, gr, lg⟩ := S'
          exact ⟨gr.set g [S.next, b], rfl, T.get_set _ _ _, fun k hk => T.get_set_ne _ _ _ _ hk⟩
        obtain ⟨gr, e1, e2, e3⟩ := this
        rw [e1]
        refine ⟨ρ.le_refl, ⟨eA.hr.objs, eA.hr.inj, eA.hr.next, eA.hr.bound, ?_, eA.hr.gnext⟩, Nat.le_refl _, fun _ _ _ => rfl, fun _ _ x => x, Nat.le_refl _, ⟨[], rfl, fun _ _ => rfl⟩, fun _ _ e => .inl e, fun _ _ x => x⟩
        intro k k' ok ok' g' hne hk hk' g1 g2
        obtain ⟨l, l1, l2, l3⟩ := eA.hr.grp k k' ok ok' g' hne hk hk' g1 g2
        by_cases cg : g' = g
        · subst cg
          by_cases ck : k = b
          · subst ck; exact absurd g2 (haloneA _ G.hb rfl k' ok' (fun e => hne e.symm) hk')
          · exact absurd g1 (haloneA _ G.hb rfl k ok ck hk)
        · exact ⟨l, (e3 g' cg).trans l1, l2, l3⟩
      have hnext2 : ((S.alone b g).setGrp g [S.next, b]).next = S.next := by
        rw [← hnA]; generalize S.alone b g = S'; obtain ⟨hp, nx, gr, lg⟩ := S'; rfl
      have hheap2 : ((S.alone b g).setGrp g [S.next, b]).heap = (S.alone b g).heap := by generalize S.alone b g = S'; obtain ⟨hp, nx, gr, lg⟩ := S'; rfl
      have hgrp2 : ((S.alone b g).setGrp g [S.next, b]).grp.get g = some [S.next, b] := by generalize S.alone b g = S'; obtain ⟨hp, nx, gr, lg⟩ := S'; exact T.get_set _ _ _
      refine eA.trans (eB.trans ?_)
      show Ext ρ _ w.heap _ (((S.alone b g).setGrp g [S.next, b]).new (viewObj cs0 es sLen new n elem g (fr - o) (plainAt0 o plain))).2 w'.heap
      generalize (S.alone b g).setGrp g [S.next, b] = S2 at eB hnext2 hheap2 hgrp2 ⊢
      rw [← hnext2]
      refine Ext.add (L := ⟨L.blk, L.sh + o, L.N⟩) eB.hr (Nat.le_of_eq hsize.symm) (by rw [hsize]; exact hL0) ?_ ?_ (by rw [hnext2]; exact hX g) ?_ ?_ ?_
      · intro k hk hno
        rw [hat, if_neg]
        intro e
        exact hno ⟨b, _, L, by rw [hheap2]; exact hbA', rfl, G.hL, e.symm⟩
      · intro b2 o2 L2 h2 hl2 hor
        rw [hheap2] at h2
        by_cases c2 : b2 = b
        · subst c2
          rw [hbA'] at h2; injection h2 with h2; subst h2
          rw [G.hL] at hl2; injection hl2 with hl2; subst hl2
          refine .cells (c := setArr c (L.sh + o + sLen * es + 0) cnew) (f := f) ?_ (by rw [setArr_size]; exact hN) G.hsz ?_ G.frz
          · rw [hat, if_pos rfl]
          · intro i v hi
            obtain ⟨p, x, q, r⟩ := G.vals i v hi
            refine ⟨p, x, ?_, r.mono (Rho.add_le (eB.hr.next _ (Nat.le_refl _)))⟩
            rw [setArr_get _ _ _ _ (by omega), if_neg (by omega)]; exact q
        · exact hor.mono (Rho.add_le (eB.hr.next _ (Nat.le_refl _))) (by rw [hat, if_neg (others b2 o2 L2 c2 h2 hl2)]) (fun r M _ => hmt M)
      · intro _; exact ⟨b, _, L, by rw [hheap2]; exact hbA', rfl, G.hL, rfl⟩
      · intro b2 o2 L2 h2 hl2 heq
        rw [hheap2] at h2
        by_cases c2 : b2 = b
        · subst c2
          rw [hbA'] at h2; injection h2 with h2; subst h2
          exact ⟨g, rfl, rfl⟩
        · exact absurd heq (others b2 o2 L2 c2 h2 hl2)
      · intro g' e
        have e' : some g = some g' := e
        injection e' with e'; subst e'
        refine ⟨by rw [hnext2]; exact Nat.le_of_lt (H.gnext b _ g G.hb rfl), fun b' o2 h2 g2 => ?_⟩
        rw [hheap2] at h2
        by_cases c2 : b' = b
        · subst c2; exact ⟨[S.next, b'], hgrp2, by simp, by rw [hnext2]; simp⟩
        · exact absurd g2 (haloneA _ G.hb rfl b' o2 c2 h2)
    | false =>
      have eD := Ext.drop eA.hr b
      have hnext2 : ((S.alone b g).drop b).next = S.next := by
        rw [← hnA]; generalize S.alone b g = S'; obtain ⟨hp, nx, gr, lg⟩ := S'; rfl
      have hD : ∀ k ok, ((S.alone b g).drop b).heap.get k = some ok → k ≠ b ∧ (S.alone b g).heap.get k = some ok := by
        intro k ok hk
        rw [St.drop_get] at hk
        by_cases ck : k = b
        · rw [if_pos ck] at hk; cases hk
        · rw [if_neg ck] at hk; exact ⟨ck, hk⟩
      have hrN : HR (ρ.add S.next ⟨L.blk, L.sh + o, L.N⟩) (((S.alone b g).drop b).new (viewObj cs0 es sLen new n elem S.next (fr - o) (plainAt0 o plain))).2 w'.heap := by
        rw [← hnext2]
        refine HR.add eD.hr (Nat.le_of_eq hsize.symm) (by rw [hsize]; exact hL0) ?_ (by rw [hnext2]; exact hX S.next) ?_ ?_
        · intro b2 o2 L2 h2 hl2 hor
          obtain ⟨c2, h2'⟩ := hD b2 o2 h2
          exact hor.mono (Rho.add_le (eD.hr.next _ (Nat.le_refl _))) (by rw [hat, if_neg (others b2 o2 L2 c2 h2' hl2)]) (fun r M _ => hmt M)
        · intro b2 o2 L2 h2 hl2 heq
          obtain ⟨c2, h2'⟩ := hD b2 o2 h2
          exact absurd heq (others b2 o2 L2 c2 h2' hl2)
        · intro g' e
          have e' : some ((S.alone b g).drop b).next = some g' := e
          injection e' with e'
          refine ⟨Nat.le_of_eq e'.symm, fun b' o2 h2 g2 => ?_⟩
          have := eD.hr.gnext b' o2 g' h2 g2
          omega
      show Ext ρ S w.heap _ (((S.alone b g).drop b).new (viewObj cs0 es sLen new n elem S.next (fr - o) (plainAt0 o plain))).2 w'.heap
      refine ⟨Rho.add_le (H.next _ (Nat.le_refl _)), hrN, Nat.le_of_eq hsize.symm, ?_, ?_, ?_, ?_, ?_, ?_⟩
      · intro k hk hno
        rw [hat, if_neg]
        intro e
        exact hno ⟨b, _, L, G.hb, rfl, G.hL, e.symm⟩
      · rintro k hk ⟨b2, o2, L2, e1, e2, e3, e4⟩
        rw [St.new_get, hnext2] at e1
        by_cases c2 : b2 = S.next
        · subst c2
          rw [Rho.add_at] at e3; injection e3 with e3; subst e3
          exact ⟨b, _, L, G.hb, rfl, G.hL, e4⟩
        · rw [if_neg c2] at e1; rw [Rho.add_ne c2] at e3
          obtain ⟨c3, e1'⟩ := hD b2 o2 e1
          exact ⟨b2, o2, L2, hsubA b2 o2 e1', e2, e3, e4⟩
      · rw [St.new_eq]; show S.next ≤ ((S.alone b g).drop b).next + 1; omega
      · obtain ⟨l, l1, l2⟩ := (eA.trans eD).log
        refine ⟨S.next :: l, ?_, fun k hk => ?_⟩
        · rw [St.new_eq]; show ((S.alone b g).drop b).next :: ((S.alone b g).drop b).log = _; rw [hnext2, l1]; rfl
        · simp only [List.mem_cons, not_or] at hk
          rw [St.new_get, hnext2, if_neg hk.1, l2 k hk.2]
      · intro k M e
        by_cases c2 : k = S.next
        · exact .inr (Nat.le_of_eq c2.symm)
        · rw [Rho.add_ne c2] at e; exact .inl e
      · rintro k hk ⟨b2, o2, L2, e1, e3, e4⟩
        rw [St.new_get, hnext2] at e1
        by_cases c2 : b2 = S.next
        · subst c2
          rw [Rho.add_at] at e3; injection e3 with e3; subst e3
          exact ⟨b, _, L, G.hb, G.hL, e4⟩
        · rw [if_neg c2] at e1; rw [Rho.add_ne c2] at e3
          obtain ⟨c3, e1'⟩ := hD b2 o2 e1
          exact ⟨b2, o2, L2, hsubA b2 o2 e1', e3, e4⟩

end Go.Ev

/- A verified evaluator. Part S9: an append that makes a new row; the whole append. -/
namespace Go.Ev

/- The view's object at a new row. -/
theorem view_fresh {ρ : Rho} {S : St} {h : Array Obj} (H : HR ρ S h) {b g o sLen es n fr : Nat} {cs cs0 : T AV} {size : Nat} {elem : TypeId} {plain joins : Bool} {L : Loc} {c : Array Value}
    (hb : S.heap.get b = some (.cells cs size elem false g fr plain)) (hL : ρ.loc b = some L)
    (vals : ∀ i v, cs.get i = some v → i < size ∧ ∃ x, c[L.sh + i]? = some x ∧ VR ρ v x)
    {new : List AV} {cold cnew rest : List Value} (hv : VRs ρ new cnew) (hlen : new.length = n * es)
    (hcold : cold.length = sLen * es) (hcold2 : ∀ i, i < sLen * es → c[L.sh + o + i]? = cold[i]?)
    (hj : joins = Nat.beq (o + sLen * es) size) (h0 : viewCells cs o (sLen * es) joins = .ok cs0) {cap : Nat} (hcap : sLen + n ≤ cap) (htot : (cold ++ cnew ++ rest).length = cap * es) :
    ∃ ρ', VR ρ' (grownView S b g o sLen es cs0 new n elem fr (plainAt0 o plain) joins).1 (.slice (some ⟨h.size, 0, none⟩) (sLen + n) cap) ∧
      Ext ρ S h ρ' (grownView S b g o sLen es cs0 new n elem fr (plainAt0 o plain) joins).2 (h.push (.cells (cold ++ cnew ++ rest).toArray elem (0, 0))) := by
  have hmul2 : (sLen + n) * es = sLen * es + n * es := Nat.add_mul _ _ _
  have hmul : (sLen + n) * es ≤ cap * es := Nat.mul_le_mul_right _ hcap
  have hcl : cnew.length = n * es := by rw [← hlen]; exact hv.length.symm
  obtain ⟨eA, hbA, hnA, haloneA, hsubA⟩ := Ext.alone H b g
  have hbA' := hbA.trans hb
  have vals0 := viewCells_ok (sh := L.sh) h0 vals (fun e => by rw [e] at hj; exact Nat.eq_of_beq_eq_true hj.symm)
  have vals1 := view_vals (k0 := sLen * es) hv (t := fun i => c[L.sh + o + i]?) (u := fun i => (cold ++ cnew ++ rest).toArray[0 + i]?) vals0
    (fun i hi => by
      show (cold ++ cnew ++ rest).toArray[0 + i]? = c[L.sh + o + i]?
      rw [hcold2 i hi, Nat.zero_add, List.getElem?_toArray, List.append_assoc, List.getElem?_append_left (by omega)])
    (fun i hi => by
      show (cold ++ cnew ++ rest).toArray[0 + (sLen * es + i)]? = cnew[i]?
      rw [Nat.zero_add, List.getElem?_toArray, List.append_assoc, List.getElem?_append_right (by omega), List.getElem?_append_left (by omega)]
      congr 1; omega)
  let X : Obj := .cells (cold ++ cnew ++ rest).toArray elem (0, 0)
  let L' : Loc := ⟨h.size, 0, cap * es⟩
  have hX : ∀ gg, OR (ρ.add S.next L') (h.push X) (viewObj cs0 es sLen new n elem gg (fr - o) (plainAt0 o plain)) L' := by
    intro gg
    have hle := Rho.add_le (L := L') (H.next _ (Nat.le_refl _))
    refine .cells (c := (cold ++ cnew ++ rest).toArray) (f := (0, 0)) ?_ (by simpa using htot) (by show 0 + (sLen + n) * es ≤ cap * es; omega) ?_ ⟨fun j _ q => absurd q (by simp), fun _ => ⟨rfl, rfl⟩, fun _ => Nat.zero_le _⟩
    · show (h.push X)[h.size]? = some X
      rw [Array.getElem?_push, if_pos rfl]
    · intro i v hi
      obtain ⟨p, x, q, r⟩ := vals1 i v hi
      exact ⟨by rw [hmul2, ← hlen]; exact p, x, q, r.mono hle⟩
  refine ⟨ρ.add S.next L', ?_, ?_⟩
  · have : VR (ρ.add S.next L') (.slice S.next 0 (sLen + n) (.grown es)) (.slice (some ⟨h.size, 0, none⟩) (sLen + n) cap) :=
      .slice Rho.add_at ⟨hcap, .inr rfl, .inr (by show 0 + 0 + cap * es ≤ cap * es; omega)⟩
    unfold grownView
    cases joins <;> exact this
  · have stays : ∀ (S2 : St), HR ρ S2 h → S2.next = S.next → ∀ b o2 L2, S2.heap.get b = some o2 → ρ.loc b = some L2 → OR ρ h o2 L2 → OR (ρ.add S2.next L') (h.push X) o2 L2 := by
      intro S2 H2 hn2 b2 o2 L2 _ _ hor
      exact hor.mono (Rho.add_le (H2.next _ (Nat.le_refl _))) (push_get hor.lt) fun r M hM => .inl (push_get (H2.bound r M hM))
    have hinj : ∀ (S2 : St), HR ρ S2 h → ∀ (b : Nat) (o2 : AObj) (L2 : Loc), S2.heap.get b = some o2 → ρ.loc b = some L2 → L2.blk = L'.blk → False := by
      intro S2 H2 b2 o2 L2 _ e2 e3
      have := H2.bound b2 L2 e2
      have e3' : L2.blk = h.size := e3
      omega
    cases joins with
    | true =>
      have eB : Ext ρ (S.alone b g) h ρ ((S.alone b g).setGrp g [S.next, b]) h := by
        have : ∃ gr, (S.alone b g).setGrp g [S.next, b] = ⟨(S.alone b g).heap, (S.alone b g).next, gr, (S.alone b g).log⟩ ∧ gr.get g = some [S.next, b] ∧ ∀ k, k ≠ g → gr.get k = (S.alone b g).grp.get k := by
          generalize S.alone b g = S'
          obtain ⟨hp, nx, gr, lg⟩ := S'
          exact ⟨gr.set g [S.next, b], rfl, T.get_set _ _ _, fun k hk => T.get_set_ne _ _ _ _ hk⟩
        obtain ⟨gr, e1, e2, e3⟩ := this
        rw [e1]
        refine ⟨ρ.le_refl, ⟨eA.hr.objs, eA.hr.inj, eA.hr.next, eA.hr.bound, ?_, eA.hr.gnext⟩, Nat.le_refl _, fun _ _ _ => rfl, fun _ _ x => x, Nat.le_refl _, ⟨[], rfl, fun _ _ => rfl⟩, fun _ _ e => .inl e, fun _ _ x => x⟩
        intro k k' ok ok' g' hne hk hk' g1 g2
        obtain ⟨l, l1, l2, l3⟩ := eA.hr.grp k k' ok ok' g' hne hk hk' g1 g2
        by_cases cg : g' = g
        · subst cg
          by_cases ck : k = b
          · subst ck; exact absurd g2 (haloneA _ hb rfl k' ok' (fun e => hne e.symm) hk')
          · exact absurd g1 (haloneA _ hb rfl k ok ck hk)
        · exact ⟨l, (e3 g' cg).trans l1, l2, l3⟩
      have hnext2 : ((S.alone b g).setGrp g [S.next, b]).next = S.next := by
        rw [← hnA]; generalize S.alone b g = S'; obtain ⟨hp, nx, gr, lg⟩ := S'; rfl
      have hheap2 : ((S.alone b g).setGrp g [S.next, b]).heap = (S.alone b g).heap := by generalize S.alone b g = S'; obtain ⟨hp, nx, gr, lg⟩ := S'; rfl
      have hgrp2 : ((S.alone b g).setGrp g [S.next, b]).grp.get g = some [S.next, b] := by generalize S.alone b g = S'; obtain ⟨hp, nx, gr, lg⟩ := S'; exact T.get_set _ _ _
      refine eA.trans (eB.trans ?_)
      show Ext ρ _ h _ (((S.alone b g).setGrp g [S.next, b]).new (viewObj cs0 es sLen new n elem g (fr - o) (plainAt0 o plain))).2 (h.push X)
      generalize (S.alone b g).setGrp g [S.next, b] = S2 at eB hnext2 hheap2 hgrp2 ⊢
      rw [← hnext2]
      refine Ext.add (L := L') eB.hr (by simp) (by show h.size < (h.push X).size; simp) (fun k hk _ => push_get hk) (stays S2 eB.hr hnext2) (by rw [hnext2]; exact hX g) (fun e => absurd e (Nat.lt_irrefl _)) (fun b2 o2 L2 a1 a2 a3 => (hinj S2 eB.hr b2 o2 L2 a1 a2 a3).elim) ?_
      intro g' e
      have e' : some g = some g' := e
      injection e' with e'; subst e'
      refine ⟨by rw [hnext2]; exact Nat.le_of_lt (H.gnext b _ g hb rfl), fun b' o2 h2 g2 => ?_⟩
      rw [hheap2] at h2
      by_cases c2 : b' = b
      · subst c2; exact ⟨[S.next, b'], hgrp2, by simp, by rw [hnext2]; simp⟩
      · exact absurd g2 (haloneA _ hb rfl b' o2 c2 h2)
    | false =>
      have eD := Ext.drop eA.hr b
      have hnext2 : ((S.alone b g).drop b).next = S.next := by
        rw [← hnA]; generalize S.alone b g = S'; obtain ⟨hp, nx, gr, lg⟩ := S'; rfl
      refine eA.trans (eD.trans ?_)
      show Ext ρ _ h _ (((S.alone b g).drop b).new (viewObj cs0 es sLen new n elem S.next (fr - o) (plainAt0 o plain))).2 (h.push X)
      generalize (S.alone b g).drop b = S2 at eD hnext2 ⊢
      rw [← hnext2]
      refine Ext.add (L := L') eD.hr (by simp) (by show h.size < (h.push X).size; simp) (fun k hk _ => push_get hk) (stays S2 eD.hr hnext2) (by rw [hnext2]; exact hX S.next) (fun e => absurd e (Nat.lt_irrefl _)) (fun b2 o2 L2 a1 a2 a3 => (hinj S2 eD.hr b2 o2 L2 a1 a2 a3).elim) ?_
      intro g' e
      have e' : some S2.next = some g' := e
      injection e' with e'
      refine ⟨Nat.le_of_eq e'.symm, fun b' o2 h2 g2 => ?_⟩
      have := eD.hr.gnext b' o2 g' h2 g2
      omega

end Go.Ev

/- A verified evaluator. Part S10: the whole append. -/
namespace Go.Ev

theorem R.bind_ok {α β : Type} {r : R α} {f : α → R β} {b : β} (h : r.bind f = .ok b) : ∃ a, r = .ok a ∧ f a = .ok b := by
  cases r with
  | ok a => exact ⟨a, rfl, h⟩
  | bad w => cases h

theorem R.map_ok {α β : Type} {r : R α} {f : α → β} {b : β} (h : r.map f = .ok b) : ∃ a, r = .ok a ∧ f a = b := by
  cases r with
  | ok a => exact ⟨a, rfl, by injection h⟩
  | bad w => cases h

theorem R.of_ok {α : Type} {o : Option α} {w : String} {a : α} (h : R.of w o = .ok a) : o = some a := by
  unfold R.of at h
  split at h
  · cases h; rfl
  · cases h

theorem R.guard_ok {b : Bool} {w : String} {u : Unit} (h : R.guard w b = .ok u) : b = true := by
  unfold R.guard at h
  split at h
  · rfl
  · cases h

theorem bytesOf_length (s : ByteArray) : (bytesOf s).length = s.size := by simp [bytesOf]

theorem lenA_ok {P : Program} {ρ : Rho} {v : AV} {c : Value} {n : Nat} (h : lenA v = .ok n) (hv : VR ρ v c) (w : World) : (Builtin.lenOf c).run P w = .ok n w := by
  unfold lenA at h
  split at h
  · cases h; cases hv; rfl
  · cases h; cases hv; rfl
  · cases h; cases hv with | str e => subst e; rw [bytesOf_length]; rfl
  · cases h

theorem byteVals_ok {ρ : Rho} (s : ByteArray) (n : Nat) : VRs ρ (byteVals ((bytesOf s).take n)) ((s.extract 0 n).data.map fun b => (Value.int .u8 b.toNat)).toList := by
  have : ((s.extract 0 n).data.map fun b => (Value.int .u8 b.toNat)).toList = ((bytesOf s).take n).map fun b => (Value.int .u8 (Int.ofNat b)) := by
    have h1 : (s.extract 0 n).data.toList = s.data.toList.take n := by simp
    rw [Array.toList_map, h1, bytesOf, ← List.map_take, List.map_map]
    rfl
  rw [this]
  generalize (bytesOf s).take n = l
  induction l with
  | nil => exact .nil
  | cons b l ih => exact .cons .int ih

theorem firstCells_ok {P : Program} {ρ : Rho} {S : St} {w : World} (H : HR ρ S w.heap) {size n m : Nat} {v : AV} {c : Value} {l : List AV}
    (h : firstCellsA S size n v = .ok l) (hv : VR ρ v c) (hm : lenA v = .ok m) (hn : n ≤ m) :
    ∃ cl, VRs ρ l cl ∧ (∀ w' : World, w'.heap = w.heap → (Builtin.firstCells size n c).run P w' = .ok cl.toArray w') ∧ cl.length = n * size := by
  unfold firstCellsA at h
  split at h
  · cases h; cases hv
    have : m = 0 := by simp [lenA] at hm; exact hm.symm
    exact ⟨[], .nil, fun _ _ => rfl, by rw [show n = 0 by omega, Nat.zero_mul]; rfl⟩
  · rename_i b o len cc
    have hlen : m = len := by simp [lenA] at hm; exact hm.symm
    subst hlen
    cases hv with
    | slice hL hc =>
      rename_i cap a L
      obtain ⟨hle, haddr, _⟩ := hc
      rcases haddr with h0 | ha
      · have hn0 : n = 0 := by omega
        subst hn0
        rw [Nat.zero_mul] at h
        obtain ⟨cs, h1, h2, h3, h4⟩ := load_ok (P := P) H h hL
        have : cs = [] := List.length_eq_zero_iff.1 h2
        subst this
        refine ⟨[], h1, fun w' _ => ?_, by simp⟩
        show (loadCells a (0 * size)).run P w' = _
        rw [Nat.zero_mul]; rfl
      · subst ha
        obtain ⟨cs, h1, h2, h3, h4⟩ := load_ok (P := P) H h hL
        refine ⟨cs, h1, fun w' hw' => ?_, h2⟩
        have H' : HR ρ S w'.heap := by rw [hw']; exact H
        obtain ⟨cs', a1, a2, a3, a4⟩ := load_ok (P := P) H' h hL
        have : cs' = cs := by
          apply List.ext_getElem?
          intro i
          by_cases hi : i < n * size
          · rw [← a3 i hi, ← h3 i hi]; simp [World.cell?, hw']
          · rw [List.getElem?_eq_none (by omega), List.getElem?_eq_none (by omega)]
        subst this
        exact a4
  · rename_i s
    split at h
    case h_2 => cases h
    rename_i hsz
    have hsz' := Nat.eq_of_beq_eq_true hsz
    cases h
    cases hv with
    | str e =>
      rename_i s'
      subst e
      have hm' : m = s'.size := by simp [lenA, bytesOf_length] at hm; exact hm.symm
      have hbv := byteVals_ok (ρ := ρ) s' n
      have hlen : (byteVals ((bytesOf s').take n)).length = n := by
        simp [byteVals, bytesOf_length]; omega
      refine ⟨_, hbv, fun w' _ => ?_, by rw [← hbv.length, hlen, hsz', Nat.mul_one]⟩
      show (Pure.pure ((s'.extract 0 n).data.map fun b => (Value.int .u8 b.toNat)) : Sem (Array Value)).run P w' = _
      rw [Array.toArray_toList]; rfl
  · cases h

theorem elemT_ok {P : Program} {E : Env} (K : EnvOK P E) {t : TypeId} {r : TypeId × TI} (h : elemT E t = .ok r) : P.underlying t = some (.slice r.1) ∧ TIok P r.1 r.2 := by
  unfold elemT at h
  obtain ⟨i, h1, h2⟩ := R.bind_ok h
  have hi := tiOf_ok K h1
  split at h2
  · rename_i e he
    obtain ⟨j, h3, h4⟩ := R.bind_ok h2
    cases h4
    exact ⟨by rw [hi.und, he], tiOf_ok K h3⟩
  · cases h2

theorem append_nil {P : Program} {ts : Array TypeId} {x : Value} {elem : TypeId} {ei : TI} {cnew : List Value} {w : World}
    (A : AppArgs P ts x elem ei 0 cnew w) {type : TypeId} (hc : cnew = []) :
    (Builtin.append_ ts type #[.slice none 0 0, x]).run P w = .ok (.slice none 0 0) w := by
  subst hc
  obtain ⟨t, ht0, hund⟩ := A.sT
  obtain ⟨xT, i, ht1, hxi, hr⟩ := A.rest
  have hsz := A.el.run_size
  have hu : ∀ w, (underlying t).run P w = .ok (.slice elem) w := fun w => by simp [underlying, hund]
  have hux : ∀ w, (underlying xT).run P w = .ok i w := fun w => by simp [underlying, hxi]
  have hcap : 0 + 0 ≤ 0 := Nat.le_refl _
  rcases hr with ⟨hz, hlen, hfc⟩ | ⟨⟨k', rfl⟩, ⟨k, rfl⟩, hb, hn, z, hzv, hc⟩
  · unfold Builtin.append_
    have e0 : (#[Value.slice none 0 0, x] : Array Value)[0]? = some (.slice none 0 0) := rfl
    have e1 : (#[Value.slice none 0 0, x] : Array Value)[1]? = some x := rfl
    simp only [ht0, ht1, e0, e1, Sem.run_bind, hu, Result.andThen_ok, hsz, hux]
    cases i <;> first | exact absurd rfl (hz _) | simp only [Sem.run_bind, Sem.run_pure, Result.andThen_ok, Bool.false_eq_true, if_false, if_true, Bool.not_false, Sem.run_ite, hlen, hcap, hfc w rfl, Nat.add_zero]
  · unfold Builtin.append_
    obtain ⟨inf, hi, _, _, hbytes⟩ := A.el.run_info w
    have hw := wrap_small hn
    have h1 : ¬ (((0 : Nat) : Int) < 0) := by omega
    have h2 : ¬ (((0 : Nat) : Int) * (inf.bytes : Int) > 2 ^ 48) := by simp
    have e0 : (#[Value.slice none 0 0, .int k (0 : Nat)] : Array Value)[0]? = some (.slice none 0 0) := rfl
    have e1 : (#[Value.slice none 0 0, .int k (0 : Nat)] : Array Value)[1]? = some (.int k (0 : Nat)) := rfl
    have has : (asInt (.int k ((0 : Nat) : Int))).run P w = .ok ((0 : Nat) : Int) w := rfl
    simp only [ht0, ht1, e0, e1, Sem.run_bind, hu, Result.andThen_ok, hsz, hux, Sem.run_pure, if_true, has, hw, Sem.run_ite, h1, if_false, hi, h2, Int.toNat_natCast, hcap, Bool.not_true, Bool.false_eq_true, Nat.zero_mul]

theorem aAppendCells_ok {P : Program} {ρ : Rho} {S S' : St} {w : World} (H : HR ρ S w.heap) {elem : TypeId} {ei : TI} {s v : AV} {cs x : Value} {sLen n : Nat} {new : List AV} {cnew : List Value} {ts : Array TypeId} {type : TypeId}
    (A : AppArgs P ts x elem ei n cnew w) (hs : VR ρ s cs) (hl : lenA s = .ok sLen) (hv : VRs ρ new cnew) (hn : new.length = n * ei.size)
    (hroom : (2 * (sLen + n) + 1000) * (ei.bytes + 1) ≤ 281474976710656) (h : aAppendCells S elem ei.size s sLen new n = .ok (v, S')) :
    ∃ ρ' w' cv, (Builtin.append_ ts type #[cs, x]).run P w = .ok cv w' ∧ VR ρ' v cv ∧ Ext ρ S w.heap ρ' S' w'.heap ∧ SameOs w w' := by
  have hcl : cnew.length = n * ei.size := by rw [← hn]; exact hv.length.symm
  have fresh : ∀ (base : Option Addr) (sCap : Nat), cs = .slice base sLen sCap → sCap < sLen + n → aAppendFresh S elem ei.size s sLen new n = .ok (v, S') →
      ∃ ρ' w' cv, (Builtin.append_ ts type #[cs, x]).run P w = .ok cv w' ∧ VR ρ' v cv ∧ Ext ρ S w.heap ρ' S' w'.heap ∧ SameOs w w' := by
    intro base sCap hcs hcap hf
    subst hcs
    unfold aAppendFresh at hf
    obtain ⟨old, h1, h2⟩ := R.bind_ok hf
    obtain ⟨cold, c1, c2, c3⟩ := firstCells_ok (P := P) H h1 hs hl (Nat.le_refl _)
    obtain ⟨cap, rest, w', q1, q2, q3, q4, qo⟩ := append_fresh A (type := type) (base := base) (sCap := sCap) hcap hroom c2 c3 hcl
    injection h2 with h2
    injection h2 with h2 h3
    subst h2; subst h3
    obtain ⟨e, _⟩ := newCells_ok (elem := elem) H rest (c1.append hv)
    refine ⟨_, w', _, q4, ?_, by rw [q3]; exact e, qo⟩
    refine .slice Rho.add_at ⟨q1, .inr rfl, .inr ?_⟩
    show 0 + 0 + cap * ei.size ≤ (cold ++ cnew ++ rest).length
    omega
  unfold aAppendCells at h
  cases s with
  | snil =>
    have : sLen = 0 := by simp [lenA] at hl; exact hl.symm
    subst this
    cases hs
    cases n with
    | zero =>
      injection h with h
      injection h with h h'
      subst h; subst h'
      exact ⟨ρ, w, _, append_nil A (List.length_eq_zero_iff.1 (by rw [hcl]; simp)), .snil, Ext.refl H, .refl w⟩
    | succ n => exact fresh none 0 rfl (by omega) h
  | slice b o len c =>
    have : sLen = len := by simp [lenA] at hl; exact hl.symm
    subst this
    cases hs with
    | slice hL hc =>
      rename_i cap a L
      cases n with
      | zero =>
        injection h with h
        injection h with h h'
        subst h; subst h'
        have hc0 : cnew = [] := List.length_eq_zero_iff.1 (by rw [hcl]; simp)
        exact ⟨ρ, w, _, append_inplace A (w' := w) hc.1 (by subst hc0; rfl), .slice hL hc, Ext.refl H, .refl w⟩
      | succ n =>
        have hM : aAppendMore S elem ei.size (.slice b o sLen c) b o sLen c new (n + 1) = .ok (v, S') := h
        clear h
        unfold aAppendMore at hM
        obtain ⟨hle, haddr, hcc⟩ := hc
        cases c with
        | exact c =>
          have hcc' : cap = c := hcc
          subst hcc'
          cases hble : Nat.ble (sLen + (n + 1)) cap with
          | true =>
            simp only [hble] at hM
            have hble' := Nat.le_of_ble_eq_true hble
            obtain ⟨S1, h1, h2⟩ := R.bind_ok hM
            injection h2 with h2
            injection h2 with h2 h3
            subst h2; subst h3
            have ha : a = ⟨L.blk, L.sh + o, none⟩ := haddr.resolve_left (by omega)
            obtain ⟨w', r1, r2, ro⟩ := store_ok (P := P) H h1 hL hv
            refine ⟨ρ, w', _, append_inplace A (w' := w') hble' ?_, .slice hL ⟨hble', .inr ha, rfl⟩, r2, ro⟩
            rw [ha, Addr.add_none, Nat.add_assoc]; exact r1
          | false =>
            simp only [hble] at hM
            have hble' : cap < sLen + (n + 1) := by
              rcases Nat.lt_or_ge cap (sLen + (n + 1)) with q | q
              · exact q
              · rw [Nat.ble_eq_true_of_le q] at hble; cases hble
            exact fresh _ _ rfl hble' hM
        | grown es' =>
          cases hes : Nat.beq es' ei.size with
          | false => simp only [hes] at hM; cases hM
          | true =>
            simp only [hes] at hM
            have hes' : es' = ei.size := Nat.eq_of_beq_eq_true hes
            subst hes'
            unfold aAppendGrown at hM
            cases hb : S.heap.get b with
            | none => rw [hb] at hM; cases hM
            | some ob =>
              rw [hb] at hM
              cases ob with
              | cells cs size elem' ro g fr plain =>
                cases ro with
                | true => cases hM
                | false =>
                  simp only at hM
                  split at hM
                  · rename_i k1 k2 k3
                    have k1' := Nat.le_of_ble_eq_true k1
                    have k3' : elem' = elem := Nat.eq_of_beq_eq_true k3
                    subst k3'
                    obtain ⟨cs0, g1, g2⟩ := R.bind_ok hM
                    injection g2 with g2
                    obtain ⟨L', e1, e2⟩ := H.objs b _ hb
                    rw [hL] at e1; injection e1 with e1; subst e1
                    cases e2 with
                    | cells at_ hN hsz vals frz =>
                      rename_i c f
                      have G : GrownAt ρ S w b o sLen cap ei.size a L cs size elem' g fr plain c f := ⟨hb, hL, at_, hN, hsz, vals, frz, hle, haddr, hcc⟩
                      by_cases hcap : sLen + (n + 1) ≤ cap
                      · obtain ⟨ρ', w', r1, r2, r3, ro⟩ := view_inplace (P := P) H G hv hn k2 k1' (by omega) hcap rfl g1
                        rw [g2] at r2 r3
                        exact ⟨ρ', w', _, append_inplace A hcap r1, r2, r3, ro⟩
                      · -- the elder cells are loaded
                        have hload : ∃ cold : List Value, cold.length = sLen * ei.size ∧ (∀ i, i < sLen * ei.size → c[L.sh + o + i]? = cold[i]?) ∧
                            ∀ w' : World, w'.heap = w.heap → (Builtin.firstCells ei.size sLen (.slice (some a) sLen cap)).run P w' = .ok cold.toArray w' := by
                          rcases haddr with h0 | ha
                          · have : sLen = 0 := by omega
                            subst this
                            refine ⟨[], by simp, fun i hi => absurd hi (by simp), fun w' _ => ?_⟩
                            show (loadCells a (0 * ei.size)).run P w' = _
                            rw [Nat.zero_mul]; rfl
                          · subst ha
                            rcases hcc with h0 | hroom2
                            · have : sLen = 0 := by omega
                              subst this
                              refine ⟨[], by simp, fun i hi => absurd hi (by simp), fun w' _ => ?_⟩
                              show (loadCells _ (0 * ei.size)).run P w' = _
                              rw [Nat.zero_mul]; rfl
                            · have hm : sLen * ei.size ≤ cap * ei.size := Nat.mul_le_mul_right _ hle
                              let cold := (c.toList.drop (L.sh + o)).take (sLen * ei.size)
                              have hcl : cold.length = sLen * ei.size := by
                                show ((c.toList.drop (L.sh + o)).take (sLen * ei.size)).length = _
                                rw [List.length_take, List.length_drop, Array.length_toList, hN]; omega
                              have hci : ∀ i, i < sLen * ei.size → c[L.sh + o + i]? = cold[i]? := by
                                intro i hi
                                show _ = ((c.toList.drop (L.sh + o)).take (sLen * ei.size))[i]?
                                rw [List.getElem?_take, if_pos hi, List.getElem?_drop, Array.getElem?_toList]
                              refine ⟨cold, hcl, hci, fun w' hw' => ?_⟩
                              show (loadCells ⟨L.blk, L.sh + o, none⟩ (sLen * ei.size)).run P w' = _
                              rw [← hcl]
                              refine run_loadCells_list w' _ cold fun j v hj => ?_
                              have hj' : j < sLen * ei.size := by
                                have := (List.getElem?_eq_some_iff.1 hj).1; omega
                              rw [Addr.add_none, cell_at (w := w') (by rw [hw']; exact at_), hci j hj', hj]
                        obtain ⟨cold, l1, l2, l3⟩ := hload
                        obtain ⟨cap', rest, w', q1, q2, q3, q4, qo⟩ := append_fresh A (type := type) (base := some a) (sCap := cap) (by omega) hroom l3 l1 hcl
                        obtain ⟨ρ', r1, r2⟩ := view_fresh H hb hL vals hv hn l1 l2 rfl g1 q1 q2
                        rw [g2] at r1 r2
                        exact ⟨ρ', w', _, q4, r1, by rw [q3]; exact r2, qo⟩
                  · cases hM
              | _ => cases hM
  | _ => cases h

end Go.Ev

/- A verified evaluator. Part S11: the built-in append; building, slicing, fields, indexes, addresses. -/
namespace Go.Ev

theorem aAppend_ok {P : Program} {E : Env} (K : EnvOK P E) {ρ : Rho} {S S' : St} {w : World} (H : HR ρ S w.heap) {sT xT : TypeId} {s x v : AV} {cs cx : Value} {ts : Array TypeId} {type : TypeId}
    (h : aAppend E S sT xT s x = .ok (v, S')) (h0 : ts[0]? = some sT) (h1 : ts[1]? = some xT) (hs : VR ρ s cs) (hx : VR ρ x cx) :
    ∃ ρ' w' cv, (Builtin.append_ ts type #[cs, cx]).run P w = .ok cv w' ∧ VR ρ' v cv ∧ Ext ρ S w.heap ρ' S' w'.heap ∧ SameOs w w' := by
  unfold aAppend at h
  obtain ⟨⟨elem, ei⟩, a1, a2⟩ := R.bind_ok h
  obtain ⟨u1, u2⟩ := elemT_ok K a1
  obtain ⟨xi, b1, b2⟩ := R.bind_ok a2
  have hxi := tiOf_ok K b1
  obtain ⟨sLen, c1, c2⟩ := R.bind_ok b2
  simp only at c2
  split at c2
  · rename_i k hk
    obtain ⟨n, d1, d2⟩ := R.bind_ok c2
    obtain ⟨_, e1, e2⟩ := R.bind_ok d2
    obtain ⟨z, f1, f2⟩ := R.bind_ok e2
    obtain ⟨_, g1, g2⟩ := R.bind_ok f2
    have hz := R.of_ok f1
    have hg := R.guard_ok e1
    simp only [Bool.and_eq_true] at hg
    obtain ⟨zv, z1, z2, z3⟩ := u2.run_zero hz w
    have hxn : ∃ kk, cx = .int kk n := by
      unfold asN at d1
      split at d1
      · cases d1; cases hx; exact ⟨_, rfl⟩
      · cases d1
    have hzall : ∀ w', (zeroValue elem).run P w' = .ok zv w' := fun w' => by
      obtain ⟨v2, a1, _, _⟩ := u2.run_zero hz w'
      have e1 := z1; have e2 := a1
      obtain ⟨inf, hi, _⟩ := u2.info
      simp only [zeroValue, typeInfo, Sem.run_bind, run_program, Result.andThen_ok, hi, Sem.run_pure] at e1 e2 ⊢
      cases hz : inf.zero with
      | none => rw [hz] at e1; cases e1
      | some v3 => rw [hz] at e1 e2; simp only [Sem.run_pure] at e1 ⊢; cases e1; rfl
    have A : AppArgs P ts cx elem ei n (Builtin.zeroCells zv.cells n).toList w :=
      ⟨⟨sT, h0, u1⟩, u2, ⟨z, hz⟩, xT, xi.desc, h1, hxi.und, .inr ⟨⟨k, hk⟩, hxn, Nat.le_of_ble_eq_true hg.1, Nat.le_of_ble_eq_true hg.2, zv, hzall, rfl⟩⟩
    exact aAppendCells_ok H A hs c1 (rep_zero (z3 ρ).cells n) (by rw [rep_length, z2]) (roomA_ok g1) g2
  · rename_i hk
    obtain ⟨n, d1, d2⟩ := R.bind_ok c2
    obtain ⟨new, e1, e2⟩ := R.bind_ok d2
    obtain ⟨z, f1, f2⟩ := R.bind_ok e2
    obtain ⟨_, g1, g2⟩ := R.bind_ok f2
    have hz := R.of_ok f1
    obtain ⟨cnew, p1, p2, p3⟩ := firstCells_ok (P := P) H e1 hx d1 (Nat.le_refl _)
    have A : AppArgs P ts cx elem ei n cnew w :=
      ⟨⟨sT, h0, u1⟩, u2, ⟨z, hz⟩, xT, xi.desc, h1, hxi.und, .inl ⟨fun k e => hk k e, lenA_ok d1 hx w, p2⟩⟩
    exact aAppendCells_ok H A hs c1 p1 (by rw [p1.length]; exact p3) (roomA_ok g1) g2

end Go.Ev

/- A verified evaluator. Part S12: what an operation comes to; operations on plain values. -/
namespace Go.Ev

def cmpOf (op : BinOp) (a b : Int) : Bool :=
  match op with
  | .eql => a == b
  | .neq => a != b
  | .lss => decide (a < b)
  | .leq => decide (a ≤ b)
  | .gtr => decide (a > b)
  | .geq => decide (a ≥ b)
  | _ => false

def isCmp : BinOp → Bool
  | .eql | .neq | .lss | .leq | .gtr | .geq => true
  | _ => false

def FactsOK (E : Env) (σ : Nat → Int) : Prop := ∀ f ∈ E.facts, isCmp f.1 = true ∧ cmpOf f.1 (f.2.1.eval σ) (f.2.2.1.eval σ) = f.2.2.2

inductive DefR (ρ : Rho) : ADI → Deferred → Prop
  | call {fn fn' : Fn} {cap args : List AV} {cap' args' : Array Value} (hf : FnR ρ fn fn') (hc : VRs ρ cap cap'.toList) (ha : VRs ρ args args'.toList) :
      DefR ρ (.call fn cap args) { target := .fn fn' cap', args := args' }
  | collected {r : Nat} {L : Loc} (h : ρ.loc r = some L) : DefR ρ (.collected r) { target := .collected L.blk, args := #[] }

inductive NextOK (P : Program) (ρ : Rho) (S : St) (w : World) : ANext → Result Next → Prop
  | val {v : AV} {S' : St} {ρ' : Rho} {w' : World} {x : Value} (he : Ext ρ S w.heap ρ' S' w'.heap) (hv : VR ρ' v x) (ho : SameOs w w' := by exact ⟨rfl, rfl, rfl⟩) : NextOK P ρ S w (.val v S') (.ok (.value x) w')
  | skip {S' : St} {ρ' : Rho} {w' : World} (he : Ext ρ S w.heap ρ' S' w'.heap) (ho : SameOs w w' := by exact ⟨rfl, rfl, rfl⟩) : NextOK P ρ S w (.val undefA S') (.ok .skip w')
  | pan {v : AV} {S' : St} {ρ' : Rho} {w' : World} {x : Value} (he : Ext ρ S w.heap ρ' S' w'.heap) (hv : VR ρ' v x) (ho : SameOs w w' := by exact ⟨rfl, rfl, rfl⟩) : NextOK P ρ S w (.pan v S') (.halt (.panic x) w')
  | enter {f : FuncId} {args : List AV} {cargs : Array Value} (ha : VRs ρ args cargs.toList) : NextOK P ρ S w (.enter f args) (.ok (.enter f cargs) w)
  | defer {d : ADI} {cd : Deferred} (hd : DefR ρ d cd) : NextOK P ρ S w (.defer d) (.ok (.defer cd) w)
  | recover : NextOK P ρ S w .recover (.ok .recover w)
  | round {l : Nat} {args : List AV} {cargs : Array Value} {L : Loc} (hl : ρ.loc l = some L) (ha : VRs ρ args cargs.toList) : NextOK P ρ S w (.round l args) ((Instr.yield L.blk cargs).run P w)
  | fork {l : List (AV × St)} {p : AV × St} {r : Result Next} (hp : p ∈ l) (h : NextOK P ρ S w (.val p.1 p.2) r) : NextOK P ρ S w (.fork l) r

/- What is known where an operation is run. -/
structure Ctx (P : Program) (E : Env) (ρ : Rho) (S : St) (w : World) (t : T AV) (nt : Nat) (a : Act) : Prop where
  env : EnvOK P E
  glob : GlobalsAt ρ E.nglob
  tm : TmR ρ nt t a.tmps
  hr : HR ρ S w.heap
  facts : FactsOK E ρ.sig

theorem valR_ok {S : St} {r : R AV} {nx : ANext} (h : valR S r = .ok nx) : ∃ v, r = .ok v ∧ nx = .val v S := by
  unfold valR at h
  split at h
  · cases h; exact ⟨_, rfl, rfl⟩
  · cases h

theorem valS_ok {r : R (AV × St)} {nx : ANext} (h : valS r = .ok nx) : ∃ p, r = .ok p ∧ nx = .val p.1 p.2 := by
  unfold valS at h
  split at h
  · cases h; exact ⟨_, rfl, rfl⟩
  · cases h

theorem unitS_ok {r : R St} {nx : ANext} (h : unitS r = .ok nx) : ∃ S', r = .ok S' ∧ nx = .val undefA S' := by
  unfold unitS at h
  split at h
  · cases h; exact ⟨_, rfl, rfl⟩
  · cases h

section
variable {P : Program} {E : Env} {ρ : Rho} {S : St} {w : World} {t : T AV} {nt : Nat} {a : Act} (C : Ctx P E ρ S w t nt a)
include C

theorem Ctx.o {x : Operand} {v : AV} (h : evO E t x = .ok v) : VR ρ v (a.eval x) := evO_ok C.glob C.tm h
theorem Ctx.os {xs : List Operand} {l : List AV} (h : evOs E t xs = .ok l) : VRs ρ l (xs.map a.eval) := evOs_ok C.glob C.tm h

theorem opMove_ok {x : Operand} {nx : ANext} (h : opMove E t S x = .ok nx) : NextOK P ρ S w nx ((Pure.pure (Next.value (a.eval x)) : Sem Next).run P w) := by
  obtain ⟨v, h1, rfl⟩ := valR_ok h
  exact .val (Ext.refl C.hr) (C.o h1)

end

/- Numbers. -/
theorem intEq_ok (a b : Int) : intEq a b = (a == b) := by
  cases a <;> cases b <;> simp only [intEq]
  · rename_i m n
    rw [Bool.eq_iff_iff, Nat.beq_eq]
    simp; exact ⟨fun h => by rw [h], fun h => by injection h⟩
  · rw [eq_comm, beq_eq_false_iff_ne]; exact fun h => by cases h
  · rw [eq_comm, beq_eq_false_iff_ne]; exact fun h => by cases h
  · rename_i m n
    rw [Bool.eq_iff_iff, Nat.beq_eq]
    simp

theorem intLt_ok (a b : Int) : intLt a b = decide (a < b) := by
  cases a <;> cases b <;> simp only [intLt]
  · rename_i m n
    rw [Bool.eq_iff_iff, Nat.blt_eq]; simp
  · rw [eq_comm, decide_eq_false_iff_not]; rename_i m n; change ¬ ((m : Int) < Int.negSucc n); omega
  · rw [eq_comm, decide_eq_true_iff]; rename_i m n; change Int.negSucc m < (n : Int); omega
  · rename_i m n
    rw [Bool.eq_iff_iff, Nat.blt_eq]; simp; omega

theorem wrapA_ok (k : IntKind) (n : Int) : wrapA k n = k.wrap n := by
  unfold wrapA
  split
  · split
    · split
      · rename_i a _ h
        have h' := Nat.le_of_ble_eq_true h
        exact (IntWalk.i64_in (Int.ofNat a) (by simp only [Int.ofNat_eq_natCast]; omega)).symm
      · rfl
    · split
      · rename_i a _ h
        have h' := Nat.le_of_ble_eq_true h
        exact (IntWalk.i64_in (Int.negSucc a) (by omega)).symm
      · rfl
  · rfl

theorem aCmp_ok {P : Program} {w : World} {op : BinOp} {m n : Int} {v : AV} {ρ : Rho} (h : aCmp op m n = .ok v) : ∃ x, (Op.intCmp op m n).run P w = .ok x w ∧ VR ρ v x := by
  unfold aCmp at h
  unfold Op.intCmp
  split at h <;> cases h <;> refine ⟨_, rfl, ?_⟩ <;> simp only [intEq_ok, intLt_ok]
  · exact .bool
  · exact .bool
  · exact .bool
  · have : (!decide (n < m)) = decide (m ≤ n) := by rw [Bool.eq_iff_iff]; simp
    rw [this]; exact .bool
  · exact .bool
  · have : (!decide (m < n)) = decide (m ≥ n) := by rw [Bool.eq_iff_iff]; simp
    rw [this]; exact .bool

theorem aInt_ok {P : Program} {w : World} {op : BinOp} {k : IntKind} {m n : Int} {v : AV} {ρ : Rho} (h : aInt op k m n = .ok v) (hs : isShift op = false) (tt : TypeId) :
    ∃ x, (binOp op tt (.int k m) (.int k n)).run P w = .ok x w ∧ VR ρ v x := by
  unfold aInt at h
  split at h
  · cases h; refine ⟨_, by simp only [binOp, Op.intArith, ne_eq, not_true_eq_false, if_false]; rfl, ?_⟩; rw [wrapA_ok]; exact .int
  · cases h; refine ⟨_, by simp only [binOp, Op.intArith, ne_eq, not_true_eq_false, if_false]; rfl, ?_⟩; rw [wrapA_ok]; exact .int
  · cases h; refine ⟨_, by simp only [binOp, Op.intArith, ne_eq, not_true_eq_false, if_false]; rfl, ?_⟩; rw [wrapA_ok]; exact .int
  · split at h
    · cases h
    · rename_i hne
      rw [intEq_ok, beq_eq_false_iff_ne] at hne
      cases h; refine ⟨_, by simp [binOp, Op.intDiv, hne]; rfl, ?_⟩; rw [wrapA_ok]; exact .int
  · split at h
    · cases h
    · rename_i hne
      rw [intEq_ok, beq_eq_false_iff_ne] at hne
      cases h; exact ⟨.int k (m.tmod n), by simp [binOp, Op.intDiv, hne], .int⟩
  · cases h; refine ⟨_, by simp only [binOp, Op.intBits, ne_eq, not_true_eq_false, if_false]; rfl, ?_⟩; rw [wrapA_ok]; exact .int
  · cases h; refine ⟨_, by simp only [binOp, Op.intBits, ne_eq, not_true_eq_false, if_false]; rfl, ?_⟩; rw [wrapA_ok]; exact .int
  · cases h; refine ⟨_, by simp only [binOp, Op.intBits, ne_eq, not_true_eq_false, if_false]; rfl, ?_⟩; rw [wrapA_ok]; exact .int
  · cases h; refine ⟨_, by simp only [binOp, Op.intBits, ne_eq, not_true_eq_false, if_false]; rfl, ?_⟩; rw [wrapA_ok]; exact .int
  · rename_i h1 h2 h3 h4 h5 h6 h7 h8 h9
    have hb : (binOp op tt (.int k m) (.int k n)) = Op.intCmp op m n := by
      unfold binOp
      cases op <;> first | (simp [isShift] at hs; done) | simp_all
    rw [hb]
    exact aCmp_ok h

end Go.Ev

/- A verified evaluator. Part S13: strings, shifts, unknown numbers. -/
namespace Go.Ev

theorem toList_data (s : ByteArray) : s.toList = s.data.toList := by
  unfold ByteArray.toList
  rw [ByteArray.toList_loop_eq s s.size 0 [] (by omega) (by omega)]
  simp

theorem bytesOf_inj {s t : ByteArray} (h : bytesOf s = bytesOf t) : s = t := by
  have h1 : s.data.toList = t.data.toList := by
    have : ∀ (l m : List UInt8), l.map UInt8.toNat = m.map UInt8.toNat → l = m := by
      intro l
      induction l with
      | nil => intro m h; cases m with | nil => rfl | cons _ _ => simp at h
      | cons a l ih =>
        intro m h
        cases m with
        | nil => simp at h
        | cons b m =>
          simp only [List.map_cons, List.cons.injEq] at h
          rw [UInt8.toNat_inj.1 h.1, ih m h.2]
    exact this _ _ h
  cases s; cases t; simp only at h1; congr; exact Array.toList_inj.1 h1

theorem bytesOf_append (s t : ByteArray) : bytesOf (s ++ t) = bytesOf s ++ bytesOf t := by simp [bytesOf, ByteArray.data_append]

theorem str_eq {s t : ByteArray} : (s.toList == t.toList) = eqNats (bytesOf s) (bytesOf t) := by
  rw [Bool.eq_iff_iff, eqNats_iff, beq_iff_eq, toList_data, toList_data]
  constructor
  · intro h; rw [bytesOf, h]; rfl
  · intro h; rw [bytesOf_inj h]

theorem str_lt (x y : List UInt8) : Op.bytesLess x y = ltNats (x.map UInt8.toNat) (y.map UInt8.toNat) := by
  induction x generalizing y with
  | nil => cases y <;> rfl
  | cons a x ih =>
    cases y with
    | nil => rfl
    | cons b y =>
      show (decide (a < b) || (a == b && Op.bytesLess x y)) = (match Nat.blt a.toNat b.toNat with | true => true | false => match Nat.beq a.toNat b.toNat with | true => ltNats (x.map UInt8.toNat) (y.map UInt8.toNat) | false => false)
      rw [ih]
      have h1 : decide (a < b) = Nat.blt a.toNat b.toNat := by rw [Bool.eq_iff_iff, Nat.blt_eq]; simp [UInt8.lt_iff_toNat_lt]
      have h2 : (a == b) = Nat.beq a.toNat b.toNat := by
        rw [Bool.eq_iff_iff, Nat.beq_eq, beq_iff_eq]
        exact ⟨fun h => by rw [h], fun h => UInt8.toNat_inj.1 h⟩
      rw [h1, h2]
      cases Nat.blt a.toNat b.toNat <;> cases Nat.beq a.toNat b.toNat <;> simp

theorem aStr_ok {P : Program} {w : World} {ρ : Rho} {op : BinOp} {l m : List Nat} {x y : ByteArray} {v : AV} (h : aStr op l m = .ok v) (hx : bytesOf x = l) (hy : bytesOf y = m) :
    ∃ c, (Op.stringOp op x y).run P w = .ok c w ∧ VR ρ v c := by
  subst hx; subst hy
  have hlt : Op.bytesLess x.toList y.toList = ltNats (bytesOf x) (bytesOf y) := by rw [toList_data, toList_data]; exact str_lt _ _
  unfold aStr at h
  unfold Op.stringOp
  simp only [str_eq, hlt]
  split at h
  · split at h
    · rename_i hb
      have hb' := Nat.le_of_ble_eq_true hb
      rw [bytesOf_length, bytesOf_length] at hb'
      have hmax : ¬ (((x.size + y.size : Nat) : Int) > IntKind.i64.max) := by
        have : IntKind.i64.max = 9223372036854775807 := by decide
        omega
      cases h
      refine ⟨_, by simp only [if_neg hmax]; rfl, .str (bytesOf_append x y)⟩
    · cases h
  all_goals first | (cases h; exact ⟨_, rfl, .bool⟩) | cases h

theorem aShift_ok {P : Program} {w : World} {ρ : Rho} {op : BinOp} {k k2 : IntKind} {m n : Int} {v : AV} (h : aShift op k m n = .ok v) (hs : isShift op = true) (tt : TypeId) :
    ∃ x, (binOp op tt (.int k m) (.int k2 n)).run P w = .ok x w ∧ VR ρ v x := by
  have hb : binOp op tt (.int k m) (.int k2 n) = Op.shift op k m k2 n := by cases op <;> first | rfl | (simp [isShift] at hs)
  rw [hb]
  unfold aShift at h
  split at h
  · cases h
  · rename_i y
    have hpow : ∀ q : Nat, Int.ofNat (Nat.pow 2 q) = (2 : Int) ^ q := by
      intro q; show ((2 ^ q : Nat) : Int) = _; simp
    have hn : ¬ (Int.ofNat y < 0) := by simp
    unfold Op.shift
    rw [if_neg hn]
    simp only [hpow, wrapA_ok] at h
    cases op <;> first | (simp [isShift] at hs; done) | skip
    · cases h; exact ⟨_, rfl, .int⟩
    · cases h; exact ⟨_, rfl, .int⟩

/- Unknown numbers. -/
theorem opEq_ok {a b : BinOp} (h : opEq a b = true) : a = b := of_decide_eq_true h

theorem SX.same_ok : ∀ {a b : SX}, SX.same a b = true → a = b := by
  intro a
  induction a with
  | var i => intro b h; cases b <;> simp [SX.same] at h; rw [h]
  | lit n =>
    intro b h
    cases b <;> simp [SX.same] at h
    rw [intEq_ok, beq_iff_eq] at h; rw [h]
  | bin op x y ihx ihy =>
    intro b h
    cases b with
    | bin op' x' y' =>
      simp only [SX.same] at h
      split at h
      · rename_i h1
        split at h
        · rename_i h2
          rw [opEq_ok h1, ihx h2, ihy h]
        · cases h
      · cases h
    | _ => simp [SX.same] at h

theorem factOf_ok {op : BinOp} {a b : SX} {r : Bool} {σ : Nat → Int} : ∀ {l : List (BinOp × SX × SX × Bool)}, factOf op a b l = some r → (∀ f ∈ l, isCmp f.1 = true ∧ cmpOf f.1 (f.2.1.eval σ) (f.2.2.1.eval σ) = f.2.2.2) →
    isCmp op = true ∧ cmpOf op (a.eval σ) (b.eval σ) = r := by
  intro l
  induction l with
  | nil => intro h; cases h
  | cons f fs ih =>
    intro h hf
    unfold factOf at h
    split at h
    · rename_i h1
      simp only [Bool.and_eq_true] at h1
      cases h
      have := hf f (by simp)
      rw [opEq_ok h1.1.1, SX.same_ok h1.1.2, SX.same_ok h1.2] at this
      exact this
    · exact ih h (fun g hg => hf g (by simp [hg]))

theorem intCmp_run {P : Program} {w : World} {op : BinOp} (h : isCmp op = true) (m n : Int) : (Op.intCmp op m n).run P w = .ok (.bool (cmpOf op m n)) w := by
  cases op <;> first | rfl | (simp [isCmp] at h)

theorem aSxCmp_ok {P : Program} {E : Env} {w : World} {ρ : Rho} {op : BinOp} {a b : SX} {v : AV} (F : FactsOK E ρ.sig) (h : aSxCmp E op a b = .ok v) :
    (Op.intCmp op (a.eval ρ.sig) (b.eval ρ.sig)).run P w = .ok (.bool (cmpOf op (a.eval ρ.sig) (b.eval ρ.sig))) w ∧ v = .bool (cmpOf op (a.eval ρ.sig) (b.eval ρ.sig)) := by
  unfold aSxCmp at h
  split at h
  · rename_i hs
    have := SX.same_ok hs
    subst this
    cases op <;> simp only [sameCmp] at h <;> first | (cases h; done) | (cases h; exact ⟨rfl, by simp [cmpOf]⟩)
  · split at h
    · rename_i r hr
      cases h
      obtain ⟨h1, h2⟩ := factOf_ok hr F
      exact ⟨intCmp_run h1 _ _, by rw [h2]⟩
    · cases h

theorem aSx_ok {P : Program} {E : Env} {w : World} {ρ : Rho} {op : BinOp} {a b : SX} {v : AV} (F : FactsOK E ρ.sig) (h : aSx E op a b = .ok v) (tt : TypeId) :
    ∃ x, (binOp op tt (.int .i64 (a.eval ρ.sig)) (.int .i64 (b.eval ρ.sig))).run P w = .ok x w ∧ VR ρ v x := by
  unfold aSx at h
  split at h
  · cases h; exact ⟨_, by simp only [binOp, Op.intArith, ne_eq, not_true_eq_false, if_false]; rfl, .sx⟩
  · cases h; exact ⟨_, by simp only [binOp, Op.intArith, ne_eq, not_true_eq_false, if_false]; rfl, .sx⟩
  · cases h; exact ⟨_, by simp only [binOp, Op.intArith, ne_eq, not_true_eq_false, if_false]; rfl, .sx⟩
  · split at h
    · rename_i hf
      obtain ⟨h1, h2⟩ := factOf_ok hf F
      have hne : b.eval ρ.sig ≠ 0 := by simpa [cmpOf, SX.eval] using h2
      cases h
      exact ⟨.int .i64 (IntKind.wrap .i64 ((a.eval ρ.sig).tdiv (b.eval ρ.sig))), by simp [binOp, Op.intDiv, hne], .sx⟩
    · cases h
  · split at h
    · rename_i hf
      obtain ⟨h1, h2⟩ := factOf_ok hf F
      have hne : b.eval ρ.sig ≠ 0 := by simpa [cmpOf, SX.eval] using h2
      cases h
      exact ⟨.int .i64 ((a.eval ρ.sig).tmod (b.eval ρ.sig)), by simp [binOp, Op.intDiv, hne], .sx⟩
    · cases h
  all_goals first
    | (obtain ⟨h1, h2⟩ := aSxCmp_ok (P := P) (w := w) F h
       subst h2
       exact ⟨_, by simp only [binOp, ne_eq, not_true_eq_false, if_false]; exact h1, .bool⟩)
    | cases h

theorem sxOf_ok {ρ : Rho} {v : AV} {c : Value} {e : SX} (h : sxOf v = .ok e) (hv : VR ρ v c) : c = .int .i64 (e.eval ρ.sig) := by
  unfold sxOf at h
  split at h
  · cases h; cases hv; rfl
  · cases h; cases hv; rfl
  · cases h

end Go.Ev

/- A verified evaluator. Part S14: parts, and equality. -/
namespace Go.Ev

theorem aPart_ok {P : Program} {E : Env} (K : EnvOK P E) {ρ : Rho} {t : TypeId} {cs : List AV} {ccs : Array Value} {off : Nat} {v : AV} (h : aPart E t cs off = .ok v) (hv : VRs ρ cs ccs.toList) (w : World) :
    ∃ x, (part t ccs off).run P w = .ok x w ∧ VR ρ v x := by
  unfold aPart at h
  obtain ⟨i, h1, h2⟩ := R.bind_ok h
  have hi := tiOf_ok K h1
  simp only [part, Sem.run_bind, hi.run_agg w, Result.andThen_ok]
  split at h2
  · rename_i ha
    cases h2
    rw [ha]
    simp only [if_true, Sem.run_bind, hi.run_size w, Result.andThen_ok, Sem.run_pure]
    refine ⟨_, rfl, .agg ?_⟩
    have := (hv.drop off).take i.size
    rw [Array.toList_extract, List.extract_eq_take_drop]
    rw [show off + i.size - off = i.size by omega]
    exact this
  · rename_i ha
    rw [ha]
    have h3 := R.of_ok h2
    obtain ⟨x, hx, hvx⟩ := hv.get h3
    rw [Array.getElem?_toList] at hx
    simp only [Bool.false_eq_true, if_false, hx, Sem.run_pure]
    exact ⟨x, rfl, hvx⟩

theorem plainAt_ok {ρ : Rho} {S : St} {h : Array Obj} (H : HR ρ S h) {b g : Nat} {L : Loc} (hp : S.plainAt b = some g) (hL : ρ.loc b = some L) :
    ∃ c e f, h[L.blk]? = some (.cells c e f) ∧ f.2 ≤ f.1 ∧ ∃ o, S.heap.get b = some o ∧ o.group = some g := by
  unfold St.plainAt at hp
  split at hp
  · rename_i hb
    cases hp
    obtain ⟨L', e1, e2⟩ := H.objs b _ hb
    rw [hL] at e1; injection e1 with e1; subst e1
    cases e2 with
    | cells at_ _ _ _ frz => exact ⟨_, _, _, at_, Nat.le_of_eq (frz.2.1 rfl).1.symm, _, hb, rfl⟩
  · cases hp

theorem frozen_plain {w : World} {blk off : Nat} {c : Array Value} {e : TypeId} {f : Nat × Nat} (h : w.heap[blk]? = some (.cells c e f)) (hf : f.2 ≤ f.1) : w.frozen? ⟨blk, off, none⟩ = false := by
  obtain ⟨lo, hi⟩ := f
  simp only [World.frozen?, h]
  simp only [Bool.and_eq_false_iff, decide_eq_false_iff_not]
  simp only at hf
  omega

theorem sameAddr_ok {P : Program} {ρ : Rho} {S : St} {w : World} (H : HR ρ S w.heap) {b o b' o' : Nat} {L L' : Loc} {r : Bool} (h : aEqPtr S b o b' o' = .ok r) (hL : ρ.loc b = some L) (hL' : ρ.loc b' = some L') :
    (sameAddr ⟨L.blk, L.sh + o, none⟩ ⟨L'.blk, L'.sh + o', none⟩).run P w = .ok r w := by
  unfold aEqPtr at h
  split at h
  · rename_i hb
    have := Nat.eq_of_beq_eq_true hb
    subst this
    rw [hL] at hL'; injection hL' with hL'; subst hL'
    cases h
    have : ((⟨L.blk, L.sh + o, none⟩ : Addr) == ⟨L.blk, L.sh + o', none⟩) = Nat.beq o o' := by
      rw [Bool.eq_iff_iff, Nat.beq_eq, beq_iff_eq]
      constructor
      · intro h; injection h with _ h; omega
      · intro h; rw [h]
    simp [sameAddr, this]
  · rename_i hb
    have hne : b ≠ b' := fun e => by rw [e, Nat.beq_refl] at hb; cases hb
    split at h
    · rename_i g g' h1 h2
      split at h
      · rename_i hg
        cases h
        obtain ⟨c, e, f, a1, a2, ob, a3, a4⟩ := plainAt_ok H h1 hL
        obtain ⟨c', e', f', b1, b2, ob', b3, b4⟩ := plainAt_ok H h2 hL'
        have hblk : L.blk ≠ L'.blk := by
          intro heq
          rcases H.inj b b' ob ob' L L' a3 b3 hL hL' heq with q | ⟨gg, q1, q2⟩
          · exact hne q
          · rw [a4] at q1; rw [b4] at q2
            injection q1 with q1; injection q2 with q2
            rw [q1, q2, Nat.beq_refl] at hg; cases hg
        have hbe : (L.blk == L'.blk) = false := by rw [beq_eq_false_iff_ne]; exact hblk
        have f1 := frozen_plain (off := L.sh + o) a1 a2
        have f2 := frozen_plain (off := c.size) a1 a2
        have f3 := frozen_plain (off := L'.sh + o') b1 b2
        have f4 := frozen_plain (off := c'.size) b1 b2
        have s1 : w.shape? L.blk = some (e, c.size) := by simp [World.shape?, a1]
        have s2 : w.shape? L'.blk = some (e', c'.size) := by simp [World.shape?, b1]
        simp [sameAddr, hbe, f1, f3, noView, viewAt, s1, s2, mayBeOne, stringish, f2, f4]
      · cases h
    · cases h

theorem ne_of_nbeq {a b : Nat} (h : Nat.beq a b = false) : a ≠ b := fun e => by rw [e, Nat.beq_refl] at h; cases h

/- Equality. -/
set_option maxHeartbeats 2000000 in
theorem aEq_ok {P : Program} {E : Env} (K : EnvOK P E) {ρ : Rho} {S : St} {w : World} (H : HR ρ S w.heap) (F : FactsOK E ρ.sig) : ∀ (d : Nat) (t : TypeId) (x y : AV) (cx cy : Value) (r : Bool),
    aEq E S d t x y = .ok r → VR ρ x cx → VR ρ y cy → ∀ D, d ≤ D → (Op.equalIn D t cx cy).run P w = .ok r w := by
  intro d
  induction d with
  | zero => intro t x y cx cy r h; cases h
  | succ d ih =>
    intro t x y cx cy r h hx hy D hD
    obtain ⟨D, rfl⟩ : ∃ m, D = m + 1 := ⟨D - 1, by omega⟩
    unfold aEq at h
    obtain ⟨i, h1, h2⟩ := R.bind_ok h
    have hi := tiOf_ok K h1
    have hu := hi.run_und w
    split at h2
    · rename_i hd
      split at h2
      · cases h2; cases hx; cases hy
        simp [Op.equalIn, hu, hd]
      · cases h2
    · rename_i j hd
      split at h2
      · split at h2
        · rename_i hk
          have := of_decide_eq_true hk
          subst this
          cases h2; cases hx; cases hy
          simp [Op.equalIn, hu, hd, intEq_ok]
        · cases h2
      · split at h2
        · rename_i hk
          have hk' : j = .i64 := of_decide_eq_true hk
          obtain ⟨ax, g1, g2⟩ := R.bind_ok h2
          obtain ⟨ay, g3, g4⟩ := R.bind_ok g2
          obtain ⟨rv, g5, g6⟩ := R.bind_ok g4
          have ex := sxOf_ok g1 hx
          have ey := sxOf_ok g3 hy
          obtain ⟨_, hv⟩ := aSxCmp_ok (P := P) (w := w) F g5
          subst hv; subst ex; subst ey
          cases g6
          simp [Op.equalIn, hu, hd, cmpOf]
        · cases h2
    · rename_i hd
      split at h2
      · cases h2
        cases hx with | str ex => cases hy with | str ey =>
          subst ex; subst ey
          simp [Op.equalIn, hu, hd, beq_toListBytes, str_eq]
      · cases h2
    · rename_i e hd
      split at h2
      · cases h2; cases hx; cases hy; simp [Op.equalIn, hu, hd]
      · cases h2; cases hx; cases hy; simp [Op.equalIn, hu, hd]
      · cases h2; cases hx; cases hy; simp [Op.equalIn, hu, hd]
      · obtain ⟨j, g1, g2⟩ := R.bind_ok h2
        have hj := tiOf_ok K g1
        split at g2
        · cases g2
        · rename_i m hm
          cases hx with | ptr hL => cases hy with | ptr hL' =>
            have := sameAddr_ok (P := P) H g2 hL hL'
            simp [Op.equalIn, hu, hd, hj.run_size w, hm, this]
      · cases h2
    · rename_i hd
      split at h2
      · cases h2; cases hx; cases hy; simp [Op.equalIn, hu, hd, samePointer]
      · cases h2; cases hx; cases hy; simp [Op.equalIn, hu, hd, samePointer]
      · cases h2; cases hx; cases hy; simp [Op.equalIn, hu, hd, samePointer]
      · cases hx with | ptr hL => cases hy with | ptr hL' =>
          have := sameAddr_ok (P := P) H h2 hL hL'
          simp [Op.equalIn, hu, hd, samePointer, this]
      · cases h2
    · rename_i ms hd
      split at h2
      · cases h2; cases hx; cases hy; simp [Op.equalIn, hu, hd]
      · cases h2; cases hx; cases hy; simp [Op.equalIn, hu, hd]
      · cases h2; cases hx; cases hy; simp [Op.equalIn, hu, hd]
      · cases hx with | iface hx => cases hy with | iface hy =>
        split at h2
        · rename_i hb
          cases h2
          simp [Op.equalIn, hu, hd, ne_of_nbeq hb]
        · rename_i hb
          have := Nat.eq_of_beq_eq_true hb
          subst this
          obtain ⟨j, g1, g2⟩ := R.bind_ok h2
          have hj := tiOf_ok K g1
          split at g2
          · rename_i heq
            obtain ⟨inf, q1, q2, q3, q4, q5⟩ := hj.info
            have hcomp := (q5 heq).1
            have := ih _ _ _ _ _ _ g2 hx hy D (by omega)
            simp [Op.equalIn, hu, hd, typeInfo, q1, hcomp, this]
          · cases g2
      · cases h2
    · rename_i fs hd
      split at h2
      · cases hx with | agg hx => cases hy with | agg hy =>
        split at h2
        · rename_i heq
          obtain ⟨inf, q1, q2, q3, q4, q5⟩ := hi.info
          have hst := (q5 heq).2
          rw [hd] at hst
          have hfo : P.fieldsOf t = fs := by simp [Program.fieldsOf, hi.und, hd]
          rw [run_equalIn_struct w D t _ _ (by rw [hi.und, hd, hfo]) hst.1, hfo]
          generalize fs.toList = l at h2
          clear hd hst hfo
          induction l with
          | nil => cases h2; rfl
          | cons f l ihl =>
            unfold aEqFields at h2
            unfold Op.eqFields
            split at h2
            · rename_i hn
              have hn' := of_decide_eq_true hn
              rw [if_neg (by simpa using hn')]
              exact ihl h2
            · rename_i hn
              have hn' := of_decide_eq_false hn
              rw [if_pos hn']
              obtain ⟨va, g1, g2⟩ := R.bind_ok h2
              obtain ⟨vb, g3, g4⟩ := R.bind_ok g2
              obtain ⟨rb, g5, g6⟩ := R.bind_ok g4
              obtain ⟨xa, p1, p2⟩ := aPart_ok K g1 hx w
              obtain ⟨xb, p3, p4⟩ := aPart_ok K g3 hy w
              have := ih _ _ _ _ _ _ g5 p2 p4 D (by omega)
              simp only [Sem.run_bind, p1, p3, this, Result.andThen_ok]
              cases rb with
              | true => simp only [Bool.not_true, Bool.false_eq_true, if_false]; exact ihl g6
              | false => cases g6; simp
        · cases h2
      · cases h2
    · rename_i e hd
      split at h2
      · cases h2; cases hx; cases hy; simp [Op.equalIn, hu, hd]
      · cases h2; cases hx; cases hy; simp [Op.equalIn, hu, hd]
      · cases h2; cases hx; cases hy; simp [Op.equalIn, hu, hd]
      · cases h2
    · rename_i k e hd
      split at h2
      · cases h2; cases hx; cases hy; simp [Op.equalIn, hu, hd]
      · cases h2; cases hx; cases hy; simp [Op.equalIn, hu, hd]
      · cases h2; cases hx; cases hy; simp [Op.equalIn, hu, hd]
      · cases h2
    · rename_i p q s hd
      split at h2
      · cases h2; cases hx; cases hy; simp [Op.equalIn, hu, hd]
      · cases h2; cases hx; cases hy; simp [Op.equalIn, hu, hd]
      · cases h2; cases hx; cases hy; simp [Op.equalIn, hu, hd]
      · cases h2
    · cases h2

end Go.Ev

/- A verified evaluator. Part S15: operations on values and cells. -/
namespace Go.Ev

section
variable {P : Program} {E : Env} {ρ : Rho} {S : St} {w : World} {t : T AV} {nt : Nat} {a : Act} (C : Ctx P E ρ S w t nt a)
include C

/- What most operations do: a value, and the world as it was. -/
theorem quiet_val {v : AV} {x : Value} {s : Sem Value} (hr : s.run P w = .ok x w) (hv : VR ρ v x) : NextOK P ρ S w (.val v S) ((do pure (Next.value (← s)) : Sem Next).run P w) := by
  simp only [Sem.run_bind, hr, Result.andThen_ok, Sem.run_pure]
  exact .val (Ext.refl C.hr) hv

theorem opPick_ok {c x y : Operand} {nx : ANext} (h : opPick E t S c x y = .ok nx) :
    NextOK P ρ S w nx ((do pure (Next.value (if ← asBool (a.eval c) then a.eval x else a.eval y)) : Sem Next).run P w) := by
  unfold opPick at h
  obtain ⟨cv, h1, h2⟩ := R.bind_ok h
  have hc := C.o h1
  split at h2
  · rename_i b
    obtain ⟨v, h3, rfl⟩ := valR_ok h2
    generalize a.eval c = cc at hc
    cases hc
    have : (asBool (.bool b)).run P w = .ok b w := rfl
    simp only [Sem.run_bind, this, Result.andThen_ok, Sem.run_pure]
    refine .val (Ext.refl C.hr) ?_
    cases b
    · exact C.o (by simpa using h3)
    · exact C.o (by simpa using h3)
  · cases h2

theorem eqGuard_ok {op : BinOp} {tt : TypeId} {x y : Operand} {va vb : AV} {ca cb : Value} {u : Unit} (h : eqGuardA E tt x y va vb = .ok u) (ha : VR ρ va ca) (hb : VR ρ vb cb) :
    (eqGuard op tt x y ca cb).run P w = .ok () w := by
  unfold eqGuardA at h
  split at h
  · cases ha; cases hb
    unfold eqGuard
    cases op <;> simp only [Bool.not_true, Bool.false_eq_true, if_false, if_true, Bool.not_false] <;> try rfl
    all_goals
      split at h
      · simp
      · simp
      · obtain ⟨i, g1, g2⟩ := R.bind_ok h
        have hi := tiOf_ok C.env g1
        split at g2
        · rename_i ms hd
          have hm := R.guard_ok g2
          have key : ∀ d, (Op.eqGuardIn (d + 1) tt .nilIface .nilIface).run P w = .ok false w := fun d => by
            simp [Op.eqGuardIn, hi.run_und w, hd, hm]
          have : (Op.eqGuardIn Op.maxDepth tt .nilIface .nilIface).run P w = .ok false w := key 9999
          rename_i hx hy _
          cases x <;> first | exact absurd rfl (hx _) | (cases y <;> first | exact absurd rfl (hy _) | simp [this])
        · cases g2
  · cases ha; cases hb
    obtain ⟨i, g1, g2⟩ := R.bind_ok h
    have hi := tiOf_ok C.env g1
    split at g2
    · rename_i fs hd
      have hm := R.guard_ok g2
      obtain ⟨inf, q1, q2, q3, q4, q5⟩ := hi.info
      have hst := (q5 hm).2
      rw [hd] at hst
      exact run_eqGuard_agg w op tt x y _ _ hst.2
    · cases g2
  · rename_i h1 h2
    unfold eqGuard
    cases ha <;> cases hb <;> first | (cases op <;> simp; done) | exact (h1 rfl rfl).elim | exact (h2 _ _ rfl rfl).elim

theorem aBinOther_ok {op : BinOp} {tt : TypeId} {x y : Operand} {va vb : AV} {ca cb : Value} {nx : ANext} (h : aBinOther E S op tt x y va vb = .ok nx) (ha : VR ρ va ca) (hb : VR ρ vb cb)
    (hint : ∀ k n, va ≠ .int k n) (hby : ∀ m r, va ≠ .byte m r) (hsx : ∀ e, va ≠ .sx e) (hstr : ∀ s, va ≠ .str s) :
    NextOK P ρ S w nx ((do pure (Next.value (← (do eqGuard op tt x y ca cb; binOp op tt ca cb))) : Sem Next).run P w) := by
  have key : ∀ b, aEq E S 8 tt va vb = .ok b → (Op.equal tt ca cb).run P w = .ok b w := fun b hb' => aEq_ok C.env C.hr C.facts 8 tt va vb ca cb b hb' ha hb 10000 (by omega)
  have hbin1 : ∀ b, aEq E S 8 tt va vb = .ok b → (binOp .eql tt ca cb).run P w = .ok (.bool b) w := by
    intro b h'
    have := key b h'
    cases ha <;> first | exact absurd rfl (hint _ _) | exact absurd rfl (hby _ _) | exact absurd rfl (hsx _) | exact absurd rfl (hstr _) | (cases hb <;> simp [binOp, this])
  have hbin2 : ∀ b, aEq E S 8 tt va vb = .ok b → (binOp .neq tt ca cb).run P w = .ok (.bool (!b)) w := by
    intro b h'
    have := key b h'
    cases ha <;> first | exact absurd rfl (hint _ _) | exact absurd rfl (hby _ _) | exact absurd rfl (hsx _) | exact absurd rfl (hstr _) | (cases hb <;> simp [binOp, this])
  unfold aBinOther at h
  split at h
  · obtain ⟨v, h1, rfl⟩ := valR_ok h
    obtain ⟨u, g1, g2⟩ := R.bind_ok h1
    obtain ⟨b, g3, rfl⟩ := R.map_ok g2
    have e1 := eqGuard_ok C (op := .eql) g1 ha hb
    refine quiet_val C (x := .bool b) ?_ .bool
    simp only [Sem.run_bind, e1, Result.andThen_ok, hbin1 b g3]
  · obtain ⟨v, h1, rfl⟩ := valR_ok h
    obtain ⟨u, g1, g2⟩ := R.bind_ok h1
    obtain ⟨b, g3, rfl⟩ := R.map_ok g2
    have e1 := eqGuard_ok C (op := .neq) g1 ha hb
    refine quiet_val C (x := .bool (!b)) ?_ .bool
    simp only [Sem.run_bind, e1, Result.andThen_ok, hbin2 b g3]
  · cases h

omit C in
theorem guard_plain {op : BinOp} {tt : TypeId} {x y : Operand} {ca cb : Value} (h1 : ca ≠ .nilIface) (h2 : ∀ c, ca ≠ .agg c) : (eqGuard op tt x y ca cb).run P w = .ok () w := by
  unfold eqGuard
  cases ca <;> first | exact absurd rfl h1 | exact absurd rfl (h2 _) | (cases op <;> simp)

theorem aBin_ok {op : BinOp} {tt : TypeId} {x y : Operand} {va vb : AV} {ca cb : Value} {nx : ANext} (h : aBin E S op tt x y va vb = .ok nx) (ha : VR ρ va ca) (hb : VR ρ vb cb) :
    NextOK P ρ S w nx ((do pure (Next.value (← (do eqGuard op tt x y ca cb; binOp op tt ca cb))) : Sem Next).run P w) := by
  unfold aBin at h
  split at h
  · rename_i e
    obtain ⟨e2, g1, g2⟩ := R.bind_ok h
    obtain ⟨v, g3, rfl⟩ := valR_ok g2
    have := sxOf_ok g1 hb
    subst this
    cases ha
    obtain ⟨c, r1, r2⟩ := aSx_ok (P := P) (w := w) C.facts g3 tt
    refine quiet_val C (x := c) ?_ r2
    simp only [Sem.run_bind, guard_plain (ca := .int .i64 _) (by simp) (by simp), Result.andThen_ok, r1]
  · rename_i m r
    split at h
    · split at h
      · rename_i k n
        split at h
        · rename_i hk
          split at h
          · rename_i hn
            have hk' := of_decide_eq_true hk
            subst hk'
            have hn' : n = Int.ofNat (Nat.succ m) := by rw [intEq_ok] at hn; exact eq_of_beq hn
            subst hn'
            obtain ⟨v, g3, rfl⟩ := valR_ok h
            cases g3
            cases hb
            cases ha with | byte hr =>
            rename_i n
            refine quiet_val C (x := .int .u8 (n.tmod (Int.ofNat (Nat.succ m)))) ?_ (by rw [hr]; exact .int)
            simp only [Sem.run_bind, guard_plain (ca := .int .u8 _) (by simp) (by simp), Result.andThen_ok]
            simp [binOp, Op.intDiv]
            omega
          · cases h
        · cases h
      · cases h
    · cases h
  · rename_i k m
    split at h
    · rename_i e
      obtain ⟨e2, g1, g2⟩ := R.bind_ok h
      obtain ⟨v, g3, rfl⟩ := valR_ok g2
      have := sxOf_ok g1 ha
      subst this
      cases hb
      obtain ⟨c, r1, r2⟩ := aSx_ok (P := P) (w := w) C.facts g3 tt
      refine quiet_val C (x := c) ?_ r2
      simp only [Sem.run_bind, guard_plain (ca := .int .i64 _) (by simp) (by simp), Result.andThen_ok, r1]
    · rename_i k' n
      cases ha; cases hb
      split at h
      · rename_i hs
        obtain ⟨v, g3, rfl⟩ := valR_ok h
        obtain ⟨c, r1, r2⟩ := aShift_ok (P := P) (w := w) (ρ := ρ) (k2 := k') g3 hs tt
        refine quiet_val C (x := c) ?_ r2
        simp only [Sem.run_bind, guard_plain (ca := .int k m) (by simp) (by simp), Result.andThen_ok, r1]
      · rename_i hs
        split at h
        · rename_i hk
          have := of_decide_eq_true hk
          subst this
          obtain ⟨v, g3, rfl⟩ := valR_ok h
          obtain ⟨c, r1, r2⟩ := aInt_ok (P := P) (w := w) (ρ := ρ) g3 hs tt
          refine quiet_val C (x := c) ?_ r2
          simp only [Sem.run_bind, guard_plain (ca := .int k m) (by simp) (by simp), Result.andThen_ok, r1]
        · cases h
    · cases h
  · rename_i s
    split at h
    · rename_i s2
      obtain ⟨v, g3, rfl⟩ := valR_ok h
      cases ha with | str ea => cases hb with | str eb =>
      obtain ⟨c, r1, r2⟩ := aStr_ok (P := P) (w := w) (ρ := ρ) g3 ea eb
      refine quiet_val C (x := c) ?_ r2
      have hbin : ∀ (p q : ByteArray), binOp op tt (.string p) (.string q) = Op.stringOp op p q := by intro p q; cases op <;> rfl
      simp only [Sem.run_bind, guard_plain (ca := .string _) (by simp) (by simp), Result.andThen_ok, hbin, r1]
    · cases h
  · rename_i h1 h2 h3 h4
    exact aBinOther_ok C h ha hb (fun k n e => h3 k n e) (fun m r e => h2 m r e) (fun e e' => h1 e e') (fun s e => h4 s e)

end
end Go.Ev

/- A verified evaluator. Part S16: memory: alloc, box, load, store; addresses, fields, indexes. -/
namespace Go.Ev

section
variable {P : Program} {E : Env} {ρ : Rho} {S : St} {w : World} {t : T AV} {nt : Nat} {a : Act} (C : Ctx P E ρ S w t nt a)
include C

theorem newVar_next {elem : TypeId} {z : AV} {v : Value} (hz : VR ρ z v) {nx : ANext} (h : (match S.newCells elem z.cells with | (b, S') => (R.ok (.val (.ptr b 0) S') : R ANext)) = .ok nx) :
    NextOK P ρ S w nx ((do pure (Next.value (.pointer (some (← newVar elem v)))) : Sem Next).run P w) := by
  obtain ⟨e, eb⟩ := newCells_ok (elem := elem) C.hr [] hz.cells
  cases hn : S.newCells elem z.cells with
  | mk b S' =>
    rw [hn] at h e eb
    simp only at h e eb
    cases h
    have hrun : (do pure (Next.value (.pointer (some (← newVar elem v)))) : Sem Next).run P w = .ok (.value (.pointer (some ⟨w.heap.size, 0, none⟩))) { w with heap := w.heap.push (.cells v.cells elem) } := rfl
    rw [hrun]
    refine .val (ρ' := ρ.add S.next ⟨w.heap.size, 0, (v.cells.toList ++ []).length⟩) ?_ ?_
    · have : (v.cells.toList ++ []).toArray = v.cells := by simp
      rw [this] at e
      exact e
    · rw [eb]
      have := VR.ptr (ρ := ρ.add S.next ⟨w.heap.size, 0, (v.cells.toList ++ []).length⟩) (o := 0) Rho.add_at
      simpa using this

theorem opAlloc_ok {elem : TypeId} {nx : ANext} (h : opAlloc E S elem = .ok nx) : NextOK P ρ S w nx ((do pure (Next.value (← Instr.alloc elem true (.tuple #[]))) : Sem Next).run P w) := by
  unfold opAlloc at h
  obtain ⟨i, h1, h2⟩ := R.bind_ok h
  obtain ⟨z, h3, h4⟩ := R.bind_ok h2
  obtain ⟨v, z1, z2, z3⟩ := (tiOf_ok C.env h1).run_zero (R.of_ok h3) w
  have := newVar_next C (z3 ρ) h4
  have hrun : (do pure (Next.value (← Instr.alloc elem true (.tuple #[]))) : Sem Next).run P w = (do pure (Next.value (.pointer (some (← newVar elem v)))) : Sem Next).run P w := by
    simp only [Instr.alloc, Sem.run_bind, z1, Result.andThen_ok]
    rfl
  rw [hrun]; exact this

theorem opBox_ok {elem : TypeId} {x : Operand} {nx : ANext} (h : opBox E t S elem x = .ok nx) : NextOK P ρ S w nx ((do pure (Next.value (← Instr.box elem (a.eval x))) : Sem Next).run P w) := by
  unfold opBox at h
  obtain ⟨v, h1, h2⟩ := R.bind_ok h
  exact newVar_next C (C.o h1) h2

theorem opLoad_ok {tt : TypeId} {x : Operand} {nx : ANext} (h : opLoad E t S tt x = .ok nx) : NextOK P ρ S w nx ((do pure (Next.value (← Instr.loadAt tt (a.eval x))) : Sem Next).run P w) := by
  unfold opLoad at h
  obtain ⟨av, h1, h2⟩ := R.bind_ok h
  obtain ⟨v, h3, rfl⟩ := valR_ok h2
  have hx := C.o h1
  unfold aLoad at h3
  obtain ⟨i, h4, h5⟩ := R.bind_ok h3
  have hi := tiOf_ok C.env h4
  generalize a.eval x = cx at hx
  split at h5
  · cases hx with | ptr hL =>
    rename_i L
    have hsure : ∀ A : Addr, (Instr.sureAddr (.pointer (some A))).run P w = .ok A w := fun _ => rfl
    split at h5
    · rename_i ha
      obtain ⟨l, g1, rfl⟩ := R.map_ok h5
      obtain ⟨cs, c1, c2, c3, c4⟩ := load_ok (P := P) C.hr g1 hL
      refine quiet_val C (x := .agg cs.toArray) ?_ (.agg (by simpa using c1))
      simp only [Instr.loadAt, loadVar, Sem.run_bind, hsure, Result.andThen_ok, hi.run_agg w, ha, if_true, hi.run_size w, c4, Sem.run_pure]
    · rename_i ha
      obtain ⟨l, g1, g2⟩ := R.bind_ok h5
      obtain ⟨cs, c1, c2, c3, c4⟩ := load_ok (P := P) C.hr g1 hL
      cases c1 with
      | nil => cases g2
      | cons hv hs =>
        rename_i v0 c0 vs cs0
        cases g2
        have hc0 := c3 0 (by omega)
        refine quiet_val C (x := c0) ?_ hv
        simp only [Instr.loadAt, loadVar, Sem.run_bind, hsure, Result.andThen_ok, hi.run_agg w, ha, Bool.false_eq_true, if_false, run_load]
        rw [show L.sh + _ = L.sh + _ + 0 from rfl, hc0]; rfl
  · cases h5

theorem opStore_ok {tt : TypeId} {x y : Operand} {nx : ANext} (h : opStore E t S tt x y = .ok nx) : NextOK P ρ S w nx ((do Instr.storeAt tt (a.eval x) (a.eval y); pure Next.skip : Sem Next).run P w) := by
  unfold opStore at h
  obtain ⟨av, h1, h2⟩ := R.bind_ok h
  obtain ⟨bv, h3, h4⟩ := R.bind_ok h2
  obtain ⟨S', h5, rfl⟩ := unitS_ok h4
  have hx := C.o h1
  have hy := C.o h3
  unfold aStore at h5
  obtain ⟨i, h6, h7⟩ := R.bind_ok h5
  have hi := tiOf_ok C.env h6
  generalize a.eval x = cx at hx
  generalize a.eval y = cy at hy
  split at h7
  · rename_i b o
    cases hx with | ptr hL =>
    rename_i L
    split at h7
    · rename_i hlen
      have hlen' := Nat.eq_of_beq_eq_true hlen
      obtain ⟨w', r1, r2, ro⟩ := store_ok (P := P) C.hr h7 hL hy.cells
      have hsz : cy.cells.size = i.size := by rw [← hlen', hy.cells.length]; simp
      have hsure : ∀ A : Addr, (Instr.sureAddr (.pointer (some A))).run P w = .ok A w := fun _ => rfl
      have hrun : (do Instr.storeAt tt (.pointer (some ⟨L.blk, L.sh + o, none⟩)) cy; pure Next.skip : Sem Next).run P w = .ok .skip w' := by
        simp only [Instr.storeAt, storeVar, Sem.run_bind, hsure, Result.andThen_ok, hi.run_size w, hsz, ne_eq, not_true_eq_false, if_false, r1, Sem.run_pure]
      rw [hrun]
      exact .skip r2 ro
    · cases h7
  · cases h7

theorem opNilCheck_ok {x : Operand} {nx : ANext} (h : opNilCheck E t S x = .ok nx) {o : Oper} (ho : o.op = .nilCheck x) : NextOK P ρ S w nx ((execOp a.eval o).run P w) := by
  unfold opNilCheck at h
  obtain ⟨v, h1, h2⟩ := R.bind_ok h
  have hx := C.o h1
  unfold execOp
  rw [ho]
  simp only
  generalize a.eval x = cx at hx
  have key : ∀ c, VR ρ v c → nx = .val v S → NextOK P ρ S w nx ((Pure.pure (Next.value c) : Sem Next).run P w) := by
    intro c hc e; subst e; exact .val (Ext.refl C.hr) hc
  cases hx with
  | func hf ha hc =>
    rename_i fn fn' f c f' c'
    have hfn : ∀ m, fn ≠ .method m := by intro m e; subst e; cases h2
    have hfn' : ∀ m, fn' ≠ .method m := by
      intro m e; subst e; cases hf with | same h => exact hfn m rfl
    have h2' : nx = .val (.func fn f c) S := by
      cases fn <;> first | exact absurd rfl (hfn _) | (cases h2; rfl)
    have := key _ (.func hf ha hc) h2'
    cases fn' <;> first | exact absurd rfl (hfn' _) | exact this
  | bool => exact key _ .bool (by cases h2; rfl)
  | int => exact key _ .int (by cases h2; rfl)
  | sx => exact key _ .sx (by cases h2; rfl)
  | byte e => exact key _ (.byte e) (by cases h2; rfl)
  | str e => exact key _ (.str e) (by cases h2; rfl)
  | pnil => cases h2
  | ptr e => exact key _ (.ptr e) (by cases h2; rfl)
  | snil => exact key _ .snil (by cases h2; rfl)
  | slice e hc => exact key _ (.slice e hc) (by cases h2; rfl)
  | mnil => exact key _ .mnil (by cases h2; rfl)
  | map e => exact key _ (.map e) (by cases h2; rfl)
  | nilFunc => cases h2
  | iface e => exact key _ (.iface e) (by cases h2; rfl)
  | nilIface => cases h2
  | agg e => exact key _ (.agg e) (by cases h2; rfl)
  | tup e => exact key _ (.tup e) (by cases h2; rfl)

theorem opFieldAddr_ok {tt : TypeId} {x : Operand} {f : Nat} {nx : ANext} (h : opFieldAddr E t S tt x f = .ok nx) : NextOK P ρ S w nx ((do pure (Next.value (← Instr.fieldAt tt (a.eval x) f)) : Sem Next).run P w) := by
  unfold opFieldAddr at h
  obtain ⟨av, h1, h2⟩ := R.bind_ok h
  obtain ⟨v, h3, rfl⟩ := valR_ok h2
  have hx := C.o h1
  unfold aFieldAddr at h3
  obtain ⟨i, h4, h5⟩ := R.bind_ok h3
  have hi := tiOf_ok C.env h4
  generalize a.eval x = cx at hx
  split at h5
  · rename_i fs b o hd
    obtain ⟨fd, h6, h7⟩ := R.bind_ok h5
    have hf := R.of_ok h6
    rw [Array.getElem?_toList] at hf
    obtain ⟨j, h8, h9⟩ := R.bind_ok h7
    have hj := tiOf_ok C.env h8
    split at h9
    · cases h9
    · rename_i m hm
      cases h9
      cases hx with | ptr hL =>
      rename_i L
      have hsure : ∀ A : Addr, (Instr.sureAddr (.pointer (some A))).run P w = .ok A w := fun _ => rfl
      have hu := hi.run_und w
      rw [hd] at hu
      refine quiet_val C (x := .pointer (some ⟨L.blk, L.sh + (o + fd.offset), none⟩)) ?_ (.ptr hL)
      simp only [Instr.fieldAt, Sem.run_bind, hu, Result.andThen_ok, hf, hsure, fieldPlace, hj.run_size w, hm, Sem.run_pure, Addr.add_none]
      simp [Nat.add_assoc]
  · cases h5

end
end Go.Ev

/- A verified evaluator. Part S17: fields, indexes, unary operations, interfaces, functions, tuples, maps that are made. -/
namespace Go.Ev

theorem asN_ok {ρ : Rho} {v : AV} {c : Value} {n : Nat} (h : asN v = .ok n) (hv : VR ρ v c) : ∃ k, c = .int k n := by
  unfold asN at h
  split at h
  · cases h; cases hv; exact ⟨_, rfl⟩
  · cases h

section
variable {P : Program} {E : Env} {ρ : Rho} {S : St} {w : World} {t : T AV} {nt : Nat} {a : Act} (C : Ctx P E ρ S w t nt a)
include C

theorem opField_ok {tt : TypeId} {x : Operand} {f : Nat} {nx : ANext} (h : opField E t S tt x f = .ok nx) : NextOK P ρ S w nx ((do pure (Next.value (← Instr.field tt (a.eval x) f)) : Sem Next).run P w) := by
  unfold opField at h
  obtain ⟨av, h1, h2⟩ := R.bind_ok h
  obtain ⟨v, h3, rfl⟩ := valR_ok h2
  have hx := C.o h1
  unfold aField at h3
  obtain ⟨i, h4, h5⟩ := R.bind_ok h3
  have hi := tiOf_ok C.env h4
  have hu := hi.run_und w
  generalize a.eval x = cx at hx
  split at h5
  · rename_i fs cs hd
    obtain ⟨fd, h6, h7⟩ := R.bind_ok h5
    have hf := R.of_ok h6
    rw [Array.getElem?_toList] at hf
    cases hx with | agg hx =>
    rename_i ccs
    obtain ⟨c, r1, r2⟩ := aPart_ok C.env h7 hx w
    rw [hd] at hu
    refine quiet_val C (x := c) ?_ r2
    have hag : (asAgg (.agg ccs)).run P w = .ok ccs w := rfl
    simp only [Instr.field, Sem.run_bind, hu, Result.andThen_ok, hf, hag, r1]
  · cases h5

theorem opIndexAddr_ok {tt : TypeId} {x y : Operand} {nx : ANext} (h : opIndexAddr E t S tt x y = .ok nx) : NextOK P ρ S w nx ((do pure (Next.value (← Instr.indexAt tt (a.eval x) (a.eval y))) : Sem Next).run P w) := by
  unfold opIndexAddr at h
  obtain ⟨av, h1, h2⟩ := R.bind_ok h
  obtain ⟨iv, h1', h2'⟩ := R.bind_ok h2
  obtain ⟨v, h3, rfl⟩ := valR_ok h2'
  have hx := C.o h1
  have hy := C.o h1'
  unfold aIndexAddr at h3
  obtain ⟨n, h4, h5⟩ := R.bind_ok h3
  obtain ⟨i, h6, h7⟩ := R.bind_ok h5
  have hi := tiOf_ok C.env h6
  have hu := hi.run_und w
  generalize a.eval x = cx at hx
  generalize a.eval y = cy at hy
  obtain ⟨k, rfl⟩ := asN_ok h4 hy
  have hint : (asIntOf (.int k (n : Int))).run P w = .ok (k, (n : Int)) w := rfl
  split at h7
  · rename_i e b o len cc hd
    obtain ⟨j, h8, h9⟩ := R.bind_ok h7
    have hj := tiOf_ok C.env h8
    split at h9
    · rename_i hlt
      have hlt' : n < len := by simpa [Nat.blt_eq] using hlt
      cases h9
      cases hx with | slice hL hc =>
      rename_i cap ad L
      have had : ad = ⟨L.blk, L.sh + o, none⟩ := hc.2.1.resolve_left (by have := hc.1; omega)
      subst had
      rw [hd] at hu
      refine quiet_val C (x := .pointer (some ⟨L.blk, L.sh + (o + n * j.size), none⟩)) ?_ (.ptr hL)
      have hcond : (0 : Int) ≤ n ∧ (n : Int) < (len : Nat) := by omega
      simp only [Instr.indexAt, Sem.run_bind, hint, Result.andThen_ok, hu, Sem.run_pure, hcond, and_self, if_true, hj.run_size w, Int.toNat_natCast, Addr.add_none, Nat.add_assoc]
    · cases h9
  · rename_i len e b o hd
    obtain ⟨j, h8, h9⟩ := R.bind_ok h7
    have hj := tiOf_ok C.env h8
    split at h9
    · rename_i hlt
      have hlt' : n < len := by simpa [Nat.blt_eq] using hlt
      cases h9
      cases hx with | ptr hL =>
      rename_i L
      rw [hd] at hu
      have hsure : ∀ A : Addr, (Instr.sureAddr (.pointer (some A))).run P w = .ok A w := fun _ => rfl
      refine quiet_val C (x := .pointer (some ⟨L.blk, L.sh + (o + n * j.size), none⟩)) ?_ (.ptr hL)
      have hcond : (0 : Int) ≤ n ∧ (n : Int) < (len : Nat) := by omega
      simp only [Instr.indexAt, Sem.run_bind, hint, Result.andThen_ok, hu, hsure, Sem.run_pure, hcond, and_self, if_true, hj.run_size w, Int.toNat_natCast, Addr.add_none, Nat.add_assoc]
    · cases h9
  · cases h7

theorem opUn_ok {op : UnOp} {x : Operand} {nx : ANext} (h : opUn E t S op x = .ok nx) : NextOK P ρ S w nx ((do pure (Next.value (← Op.unary op (a.eval x))) : Sem Next).run P w) := by
  unfold opUn at h
  obtain ⟨av, h1, h2⟩ := R.bind_ok h
  have hx := C.o h1
  generalize a.eval x = cx at hx
  split at h2
  · cases h2; cases hx
    refine quiet_val C (x := .int _ _) rfl ?_
    rw [wrapA_ok]; exact .int
  · rename_i e
    cases h2; cases hx
    exact quiet_val C (x := .int .i64 (IntKind.wrap .i64 (0 - e.eval ρ.sig))) rfl .sx
  · cases h2; cases hx
    exact quiet_val C (x := .bool _) rfl .bool
  · obtain ⟨v, h3, rfl⟩ := valR_ok h2
    cases hx
    obtain ⟨c, r1, r2⟩ := aInt_ok (P := P) (w := w) (ρ := ρ) h3 rfl 0
    refine quiet_val C (x := c) ?_ r2
    rw [← r1]
    simp only [binOp, ne_eq, not_true_eq_false, if_false]
    rfl
  · cases h2

theorem opMakeInterface_ok {tt : TypeId} {x : Operand} {nx : ANext} (h : opMakeInterface E t S tt x = .ok nx) : NextOK P ρ S w nx ((do pure (Next.value (← Instr.makeInterface tt (a.eval x))) : Sem Next).run P w) := by
  unfold opMakeInterface at h
  obtain ⟨v, h1, h2⟩ := R.bind_ok h
  obtain ⟨i, h3, h4⟩ := R.bind_ok h2
  have hi := tiOf_ok C.env h3
  have hu := hi.run_und w
  split at h4
  · cases h4
  · rename_i hne
    cases h4
    refine quiet_val C (x := .iface tt (a.eval x)) ?_ (.iface (C.o h1))
    simp only [Instr.makeInterface, Sem.run_bind, hu, Result.andThen_ok, Sem.run_pure]

theorem opMakeFunc_ok {fn : Fn} {first captured : Array Operand} {nx : ANext} (h : opMakeFunc E t S fn first captured = .ok nx) :
    NextOK P ρ S w nx ((do pure (Next.value (← Instr.makeFunc fn (first.map a.eval) (captured.map a.eval))) : Sem Next).run P w) := by
  unfold opMakeFunc at h
  obtain ⟨_, h0, h⟩ := R.bind_ok h
  have hfn : ∀ l, fn ≠ .yield l := by intro l e; subst e; have := R.guard_ok h0; simp [isNoYield] at this
  obtain ⟨v, h1, h2⟩ := R.bind_ok h
  obtain ⟨u, h3, h4⟩ := R.bind_ok h2
  cases h4
  refine quiet_val C (x := .func fn (first.map a.eval) (captured.map a.eval)) rfl (.func (.same hfn) ?_ ?_)
  · rw [Array.toList_map]; exact C.os h1
  · rw [Array.toList_map]; exact C.os h3

theorem opExtract_ok {x : Operand} {i : Nat} {nx : ANext} (h : opExtract E t S x i = .ok nx) : NextOK P ρ S w nx ((do pure (Next.value (← Instr.extract (a.eval x) i)) : Sem Next).run P w) := by
  unfold opExtract at h
  obtain ⟨v, h1, h2⟩ := R.bind_ok h
  have hx := C.o h1
  generalize a.eval x = cx at hx
  split at h2
  · obtain ⟨u, h3, rfl⟩ := valR_ok h2
    have h4 := R.of_ok h3
    cases hx with | tup hx =>
    obtain ⟨c, r1, r2⟩ := hx.get h4
    rw [Array.getElem?_toList] at r1
    refine quiet_val C (x := c) ?_ r2
    simp only [Instr.extract, r1, Sem.run_pure]
  · cases h2

end
end Go.Ev

/- A verified evaluator. Part S18: structs, arrays and slices that are built. -/
namespace Go.Ev

theorem fold_set {ρ : Rho} : ∀ (vs : List AV) (cvs : List Value) (cs : List AV) (cells : Array Value) (off k : Nat), VRs ρ vs cvs → VRs ρ cs cells.toList →
    VRs ρ (listSet cs (off + k) vs) (((cvs.zipIdx k).foldl (fun cs x => cs.setIfInBounds (off + x.2) x.1) cells).toList) := by
  intro vs
  induction vs with
  | nil => intro cvs cs cells off k h hc; cases h; exact hc
  | cons v vs ih =>
    intro cvs cs cells off k h hc
    cases h with
    | cons hx hs =>
      rename_i x cvs
      show VRs ρ (listSet (cs.set (off + k) v) (off + k + 1) vs) _
      rw [List.zipIdx_cons, List.foldl_cons]
      have h1 : VRs ρ (cs.set (off + k) v) (cells.setIfInBounds (off + k) x).toList := by
        rw [Array.toList_setIfInBounds]; exact hc.set _ hx
      exact ih cvs _ _ off (k + 1) hs h1

theorem listSet_length (vs : List AV) : ∀ (cs : List AV) (o : Nat), (listSet cs o vs).length = cs.length := by
  induction vs with
  | nil => intro cs o; rfl
  | cons v vs ih => intro cs o; show (listSet _ _ vs).length = _; rw [ih]; simp

inductive PartsR (ρ : Rho) : List (Nat × AV) → List (Nat × Value) → Prop
  | nil : PartsR ρ [] []
  | cons {i : Nat} {v : AV} {c : Value} {ps : List (Nat × AV)} {cs : List (Nat × Value)} (h : VR ρ v c) (hs : PartsR ρ ps cs) : PartsR ρ ((i, v) :: ps) ((i, c) :: cs)

theorem fill_ok {ρ : Rho} {pa : Nat → R (Nat × Nat)} {pc : Nat → Option (Nat × Nat)} (hp : ∀ i r, pa i = .ok r → pc i = some r) :
    ∀ {ps : List (Nat × AV)} {cps : List (Nat × Value)} {cs l : List AV} {cells : Array Value}, fillA pa cs ps = .ok l → PartsR ρ ps cps → VRs ρ cs cells.toList →
    ∃ out, Instr.fill pc cells cps = some out ∧ VRs ρ l out.toList := by
  intro ps
  induction ps with
  | nil => intro cps cs l cells h hps hc; cases hps; cases h; exact ⟨cells, rfl, hc⟩
  | cons p ps ih =>
    intro cps cs l cells h hps hc
    cases hps with
    | cons hv hs =>
      rename_i i v c cps
      unfold fillA at h
      obtain ⟨os, h1, h2⟩ := R.bind_ok h
      split at h2
      · rename_i k1 k2
        have k1' := Nat.eq_of_beq_eq_true k1
        have k2' := Nat.le_of_ble_eq_true k2
        have hlen : c.cells.size = os.2 := by rw [← k1']; simpa using hv.cells.length.symm
        have hcl : cs.length = cells.size := by simpa using hc.length
        have hpl := hp i os h1
        have hnew := fold_set v.cells c.cells.toList cs cells os.1 0 hv.cells hc
        simp only [Nat.add_zero] at hnew
        have hfold : (c.cells.zipIdx.foldl (fun cs (c, j) => cs.setIfInBounds (os.1 + j) c) cells) = ((c.cells.toList.zipIdx 0).foldl (fun cs x => cs.setIfInBounds (os.1 + x.2) x.1) cells) := by
          rw [← Array.foldl_toList, Array.toList_zipIdx]
        rw [← hfold] at hnew
        obtain ⟨out, r1, r2⟩ := ih h2 hs hnew
        refine ⟨out, ?_, r2⟩
        unfold Instr.fill
        rw [hpl]
        simp only [hlen, ne_eq, not_true_eq_false, decide_false, Bool.false_or, gt_iff_lt]
        rw [if_neg (by simp; omega)]
        exact r1
      · cases h2

section
variable {P : Program} {E : Env} {ρ : Rho} {S : St} {w : World} {t : T AV} {nt : Nat} {a : Act} (C : Ctx P E ρ S w t nt a)
include C

theorem Ctx.parts {xs : List (Nat × Operand)} {l : List (Nat × AV)} (h : evParts E t xs = .ok l) : PartsR ρ l (xs.map fun p => (p.1, a.eval p.2)) := by
  induction xs generalizing l with
  | nil => cases h; exact .nil
  | cons x xs ih =>
    unfold evParts at h
    obtain ⟨v, h1, h2⟩ := R.bind_ok h
    obtain ⟨l2, h3, h4⟩ := R.bind_ok h2
    cases h4
    exact .cons (C.o h1) (ih h3)

omit C in
theorem mapM_sizes {fs : Array Field} (hf : ∀ f ∈ fs.toList, ∃ inf, P.info? f.type = some inf) :
    (fs.mapM fun f => do pure (f.offset, ← sizeOf f.type) : Sem (Array (Nat × Nat))).run P w = .ok (fs.map fun f => (f.offset, P.cellsOf f.type)) w := by
  rw [Array.mapM_eq_mapM_toList]
  have key : ∀ (l : List Field), (∀ f ∈ l, ∃ inf, P.info? f.type = some inf) →
      (l.mapM fun f => do pure (f.offset, ← sizeOf f.type) : Sem (List (Nat × Nat))).run P w = .ok (l.map fun f => (f.offset, P.cellsOf f.type)) w := by
    intro l
    induction l with
    | nil => intro _; rfl
    | cons f l ih =>
      intro h
      obtain ⟨inf, hi⟩ := h f (by simp)
      have hs : (sizeOf f.type).run P w = .ok (P.cellsOf f.type) w := by simp [sizeOf, typeInfo, hi, Program.cellsOf]
      simp only [List.mapM_cons, Sem.run_bind, hs, Result.andThen_ok, Sem.run_pure, ih (fun g hg => h g (by simp [hg]))]
      rfl
  rw [← bind_pure_comp, Sem.run_bind, key _ hf]
  simp only [Result.andThen_ok, Sem.run_pure]
  congr 1
  apply Array.ext'
  simp

theorem opBuild_ok {tt : TypeId} {parts : Array (Nat × Operand)} {nx : ANext} (h : opBuild E t S tt parts = .ok nx) :
    NextOK P ρ S w nx ((do pure (Next.value (← Instr.build tt (parts.map fun (i, x) => (i, a.eval x)))) : Sem Next).run P w) := by
  unfold opBuild at h
  obtain ⟨ps, h1, h2⟩ := R.bind_ok h
  obtain ⟨v, h3, rfl⟩ := valR_ok h2
  have hps := C.parts h1
  unfold aBuild at h3
  obtain ⟨i, h4, h5⟩ := R.bind_ok h3
  have hi := tiOf_ok C.env h4
  have hu := hi.run_und w
  obtain ⟨z, h6, h7⟩ := R.bind_ok h5
  obtain ⟨zv, z1, z2, z3⟩ := hi.run_zero (R.of_ok h6) w
  have hpl : (parts.map fun (i, x) => (i, a.eval x)).toList = parts.toList.map fun p => (p.1, a.eval p.2) := by simp
  split at h7
  · rename_i fs hd
    obtain ⟨l, h8, rfl⟩ := R.map_ok h7
    have hp : ∀ i r, structPlace E fs.toList i = .ok r → (fs.map fun f => (f.offset, P.cellsOf f.type))[i]? = some r := by
      intro i r hr
      unfold structPlace at hr
      obtain ⟨f, g1, g2⟩ := R.bind_ok hr
      obtain ⟨j, g3, g4⟩ := R.bind_ok g2
      have hf := R.of_ok g1
      rw [Array.getElem?_toList] at hf
      cases g4
      obtain ⟨inf, q1, q2, _⟩ := (tiOf_ok C.env g3).info
      simp [hf, Program.cellsOf, q1, q2]
    obtain ⟨out, r1, r2⟩ := fill_ok hp h8 hps (z3 ρ).cells
    rw [hd] at hu
    refine quiet_val C (x := .agg out) ?_ (.agg r2)
    simp only [Instr.build, Sem.run_bind, z1, Result.andThen_ok, hu, mapM_sizes (hi.fields fs hd), hpl]
    rw [r1]; rfl
  · rename_i n e hd
    obtain ⟨j, h8, h9⟩ := R.bind_ok h7
    have hj := tiOf_ok C.env h8
    obtain ⟨l, h10, rfl⟩ := R.map_ok h9
    obtain ⟨out, r1, r2⟩ := fill_ok (pc := fun i => some (i * j.size, j.size)) (fun i r hr => by cases hr; rfl) h10 hps (z3 ρ).cells
    rw [hd] at hu
    refine quiet_val C (x := .agg out) ?_ (.agg r2)
    simp only [Instr.build, Sem.run_bind, z1, Result.andThen_ok, hu, hj.run_size w, hpl]
    rw [r1]; rfl
  · cases h7

end
end Go.Ev

/- A verified evaluator. Part S19: slices that are built, made and cut; indexes. -/
namespace Go.Ev

theorem zero_all {P : Program} {t : TypeId} {i : TI} (hi : TIok P t i) {z : AV} (hz : i.zero = some z) : ∃ v, (∀ w, (zeroValue t).run P w = .ok v w) ∧ z.cells.length = i.size ∧ ∀ ρ, VR ρ z v := by
  obtain ⟨inf, e, _, _, zs, _⟩ := hi.info
  obtain ⟨a, v, b, c⟩ := zs z hz
  refine ⟨v, fun w => ?_, a, fun ρ => toA_ok c⟩
  simp [zeroValue, typeInfo, e, b]

theorem range_mod (c : Array Value) (n : Nat) : (Array.range (n * c.size)).map (c[· % c.size]!) = Builtin.zeroCells c n := rfl

section
variable {P : Program} {E : Env} {ρ : Rho} {S : St} {w : World} {t : T AV} {nt : Nat} {a : Act} (C : Ctx P E ρ S w t nt a)
include C

theorem newSlice_next {elem : TypeId} {l : List AV} {c : Array Value} (hv : VRs ρ l c.toList) {len cap : Nat} (hlc : len ≤ cap) {s : Sem Value}
    (hr : s.run P w = .ok (.slice (some ⟨w.heap.size, 0, none⟩) len cap) { w with heap := w.heap.push (.cells c elem) }) :
    NextOK P ρ S w (.val (.slice (S.newCells elem l).1 0 len (.exact cap)) (S.newCells elem l).2) ((do pure (Next.value (← s)) : Sem Next).run P w) := by
  obtain ⟨e, eb⟩ := newCells_ok (elem := elem) C.hr [] hv
  have hc : (c.toList ++ []).toArray = c := by simp
  rw [hc] at e
  simp only [Sem.run_bind, hr, Result.andThen_ok, Sem.run_pure]
  refine .val e ?_
  rw [eb]
  exact .slice Rho.add_at ⟨hlc, .inr rfl, rfl⟩

theorem opBuildSlice_ok {tt : TypeId} {len : Nat} {parts : Array (Nat × Operand)} {nx : ANext} (h : opBuildSlice E t S tt len parts = .ok nx) :
    NextOK P ρ S w nx ((do pure (Next.value (← Instr.buildSlice tt len (parts.map fun (i, x) => (i, a.eval x)))) : Sem Next).run P w) := by
  unfold opBuildSlice at h
  obtain ⟨ps, h1, h2⟩ := R.bind_ok h
  obtain ⟨p, h3, rfl⟩ := valS_ok h2
  have hps := C.parts h1
  unfold aBuildSlice at h3
  obtain ⟨⟨elem, ei⟩, h4, h5⟩ := R.bind_ok h3
  obtain ⟨u1, u2⟩ := elemT_ok C.env h4
  obtain ⟨z, h6, h7⟩ := R.bind_ok h5
  obtain ⟨_, h8, h9⟩ := R.bind_ok h7
  obtain ⟨l, h10, h11⟩ := R.bind_ok h9
  cases h11
  obtain ⟨zv, z1, z2, z3⟩ := zero_all u2 (R.of_ok h6)
  have hguard := Nat.le_of_ble_eq_true (R.guard_ok h8)
  have hpl : (parts.map fun (i, x) => (i, a.eval x)).toList = parts.toList.map fun p => (p.1, a.eval p.2) := by simp
  have hzs : zv.cells.size = ei.size := by
    have := (z3 ρ).cells.length; rw [z2] at this; simpa using this.symm
  obtain ⟨out, r1, r2⟩ := fill_ok (pc := fun i => some (i * ei.size, ei.size)) (fun i r hr => by cases hr; rfl) h10 hps (rep_zero (z3 ρ).cells len)
  have hu : (underlying tt).run P w = .ok (.slice elem) w := by simp [underlying, u1]
  refine newSlice_next C r2 (Nat.le_refl _) ?_
  have hg : ¬ (len * ei.size > 2 ^ 24) := by
    have : (2 : Nat) ^ 24 = 16777216 := by decide
    simp only at hguard
    omega
  simp only [Instr.buildSlice, Sem.run_bind, hu, Result.andThen_ok, u2.run_size w, hg, if_false, Sem.run_ite, Sem.run_pure]
  by_cases h0 : len * ei.size = 0
  · rw [if_pos h0]
    have hz0 : (Array.range (len * ei.size)).map ((#[] : Array Value)[· % (#[] : Array Value).size]!) = Builtin.zeroCells zv.cells len := by
      have : (Builtin.zeroCells zv.cells len).size = 0 := by rw [zeroCells_size, hzs]; exact h0
      rw [h0]
      rw [Array.eq_empty_of_size_eq_zero this]; simp
    simp only [hz0, hpl, r1]
    rfl
  · rw [if_neg h0]
    simp only [z1, Result.andThen_ok, hpl]
    have : (Array.range (len * ei.size)).map (zv.cells[· % zv.cells.size]!) = Builtin.zeroCells zv.cells len := by rw [← hzs]; rfl
    rw [this, r1]
    rfl

theorem opMakeSlice_ok {tt : TypeId} {x y : Operand} {nx : ANext} (h : opMakeSlice E t S tt x y = .ok nx) :
    NextOK P ρ S w nx ((do pure (Next.value (← Instr.makeSlice tt (a.eval x) (a.eval y))) : Sem Next).run P w) := by
  unfold opMakeSlice at h
  obtain ⟨lv, h1, h2⟩ := R.bind_ok h
  obtain ⟨cv, h3, h4⟩ := R.bind_ok h2
  obtain ⟨p, h5, rfl⟩ := valS_ok h4
  have hx := C.o h1
  have hy := C.o h3
  generalize a.eval x = cx at hx
  generalize a.eval y = cy at hy
  unfold aMakeSlice at h5
  obtain ⟨⟨elem, ei⟩, h6, h7⟩ := R.bind_ok h5
  obtain ⟨u1, u2⟩ := elemT_ok C.env h6
  obtain ⟨l, h8, h9⟩ := R.bind_ok h7
  obtain ⟨c, h10, h11⟩ := R.bind_ok h9
  obtain ⟨z, h12, h13⟩ := R.bind_ok h11
  obtain ⟨_, h14, h15⟩ := R.bind_ok h13
  cases h15
  obtain ⟨k, rfl⟩ := asN_ok h8 hx
  obtain ⟨k', rfl⟩ := asN_ok h10 hy
  obtain ⟨zv, z1, z2, z3⟩ := zero_all u2 (R.of_ok h12)
  have hg := R.guard_ok h14
  simp only [Bool.and_eq_true] at hg
  have hlc := Nat.le_of_ble_eq_true hg.1.1
  have hcb := Nat.le_of_ble_eq_true hg.1.2
  have hc := Nat.le_of_ble_eq_true hg.2
  have hzs : zv.cells.size = ei.size := by
    have := (z3 ρ).cells.length; rw [z2] at this; simpa using this.symm
  have hu : (underlying tt).run P w = .ok (.slice elem) w := by simp [underlying, u1]
  obtain ⟨inf, hi, _, _, hbytes⟩ := u2.run_info w
  refine newSlice_next C (rep_zero (z3 ρ).cells c) hlc ?_
  have e1 : (asInt (.int k (l : Int))).run P w = .ok (l : Int) w := rfl
  have e2 : (asInt (.int k' (c : Int))).run P w = .ok (c : Int) w := rfl
  have w1 := wrap_small (show l ≤ 1000000 by omega)
  have w2 := wrap_small hc
  have t1 : ((decide ((c : Int) < 0)) || decide ((inf.bytes : Int) * (c : Int) > 2 ^ 48)) = false := by
    have : (inf.bytes : Int) * (c : Int) = ((c * ei.bytes : Nat) : Int) := by rw [hbytes, Nat.mul_comm]; simp
    simp only [Bool.or_eq_false_iff, decide_eq_false_iff_not]
    omega
  have t2 : ¬ ((l : Int) < 0) := by omega
  have t3 : ¬ ((l : Int) > (c : Int)) := by omega
  simp only [Instr.makeSlice, Sem.run_bind, hu, Result.andThen_ok, e1, e2, hi, w1, w2, t1, t2, t3, decide_false, Bool.or_self, Bool.false_eq_true, if_false, run_askRoom, u2.run_size w, Int.toNat_natCast, Sem.run_ite, Sem.run_pure]
  by_cases h0 : c * ei.size = 0
  · rw [if_pos h0]
    have hz0 : (Array.range (c * ei.size)).map ((#[] : Array Value)[· % (#[] : Array Value).size]!) = Builtin.zeroCells zv.cells c := by
      have : (Builtin.zeroCells zv.cells c).size = 0 := by rw [zeroCells_size, hzs]; exact h0
      rw [h0]
      rw [Array.eq_empty_of_size_eq_zero this]; simp
    simp only [hz0]
    rfl
  · rw [if_neg h0]
    simp only [z1, Result.andThen_ok]
    have : (Array.range (c * ei.size)).map (zv.cells[· % zv.cells.size]!) = Builtin.zeroCells zv.cells c := by rw [← hzs]; rfl
    rw [this]
    rfl

end
end Go.Ev

/- A verified evaluator. Part S20: cutting slices and strings; indexes. -/
namespace Go.Ev

inductive OptR : Option Nat → Option Value → Prop
  | none : OptR none none
  | some {k : IntKind} {n : Nat} : OptR (some n) (some (.int k n))

theorem sliceBound_run {P : Program} {w : World} {k : IntKind} {n y : Nat} {code : BoundsCode} (h : n ≤ y) : (Instr.sliceBound (.int k n) y code).run P w = .ok n w := by
  have hi : (asIntOf (.int k (n : Int))).run P w = .ok (k, (n : Int)) w := rfl
  have hc : (0 : Int) ≤ n ∧ (n : Int) ≤ (y : Nat) := by omega
  simp only [Instr.sliceBound, Sem.run_bind, hi, Result.andThen_ok, hc, and_self, if_true, Sem.run_pure, Int.toNat_natCast]

theorem sliceBounds_run {P : Program} {w : World} {isSlice : Bool} {len cap : Nat} {lo hi mx : Option Nat} {clo chi cmx : Option Value} (h1 : OptR lo clo) (h2 : OptR hi chi) (h3 : OptR mx cmx)
    (hm : mx.getD cap ≤ cap) (hh : hi.getD len ≤ mx.getD cap) (hl : lo.getD 0 ≤ hi.getD len) (hs : (hi.isSome || mx.isNone) = true) :
    (Instr.sliceBounds isSlice len cap clo chi cmx).run P w = .ok (lo.getD 0, hi.getD len, mx.getD cap) w := by
  cases h3 with
  | none =>
    cases h2 with
    | none =>
      cases h1 with
      | none => rfl
      | some =>
        simp only [Option.getD_some, Option.getD_none] at *
        simp only [Instr.sliceBounds, Sem.run_bind, Sem.run_pure, Result.andThen_ok, sliceBound_run hl]
    | some =>
      simp only [Option.getD_some, Option.getD_none] at hm hh hl
      cases h1 with
      | none => simp only [Instr.sliceBounds, Sem.run_bind, Sem.run_pure, Result.andThen_ok, sliceBound_run hh, Option.getD_some, Option.getD_none]
      | some =>
        simp only [Option.getD_some, Option.getD_none] at *
        simp only [Instr.sliceBounds, Sem.run_bind, Sem.run_pure, Result.andThen_ok, sliceBound_run hh, sliceBound_run hl]
  | some =>
    simp only [Option.getD_some] at hm hh
    cases h2 with
    | none => simp at hs
    | some =>
      simp only [Option.getD_some] at hh hl
      cases h1 with
      | none => simp only [Instr.sliceBounds, Sem.run_bind, Sem.run_pure, Result.andThen_ok, sliceBound_run hm, sliceBound_run hh, Option.getD_some, Option.getD_none]
      | some =>
        simp only [Option.getD_some] at *
        simp only [Instr.sliceBounds, Sem.run_bind, Sem.run_pure, Result.andThen_ok, sliceBound_run hm, sliceBound_run hh, sliceBound_run hl]

inductive OptV (ρ : Rho) : Option AV → Option Value → Prop
  | none : OptV ρ none none
  | some {v : AV} {c : Value} (h : VR ρ v c) : OptV ρ (some v) (some c)

theorem optN_ok {ρ : Rho} {v : Option AV} {c : Option Value} {n : Option Nat} (h : optN v = .ok n) (hv : OptV ρ v c) : OptR n c := by
  unfold optN at h
  cases hv with
  | none => cases h; exact .none
  | some hv =>
    obtain ⟨m, h1, rfl⟩ := R.map_ok h
    obtain ⟨k, rfl⟩ := asN_ok h1 hv; exact .some

/- The cut of a slice that lies somewhere. -/
theorem aSliceOf_ok {ρ : Rho} {b o len cap es : Nat} {c : ACap} {ad : Addr} {L : Loc} {lo hi mx : Option Nat} {v : AV} (h : aSliceOf b o len c es lo hi mx = .ok v) (hL : ρ.loc b = some L)
    (hc : capOk L o len c ad cap) :
    (mx.getD cap ≤ cap ∧ hi.getD len ≤ mx.getD cap ∧ lo.getD 0 ≤ hi.getD len) ∧
    VR ρ v (.slice (some (if mx.getD cap = lo.getD 0 then ad else ad.add (lo.getD 0 * es))) (hi.getD len - lo.getD 0) (mx.getD cap - lo.getD 0)) := by
  obtain ⟨h1, h2, h3⟩ := hc
  unfold aSliceOf at h
  cases c with
  | exact cp =>
    have h3' : cap = cp := h3
    subst h3'
    simp only at h
    split at h
    · rename_i k1 k2 k3
      have k1' := Nat.le_of_ble_eq_true k1
      have k2' := Nat.le_of_ble_eq_true k2
      have k3' := Nat.le_of_ble_eq_true k3
      cases h
      refine ⟨⟨k1', k2', k3'⟩, ?_⟩
      have hsub : hi.getD len - lo.getD 0 ≤ mx.getD cap - lo.getD 0 := by omega
      by_cases hml : mx.getD cap = lo.getD 0
      · rw [if_pos hml]
        have : Nat.beq (mx.getD cap) (lo.getD 0) = true := by rw [hml]; exact Nat.beq_refl _
        rw [this]
        exact .slice hL ⟨hsub, .inl (by omega), rfl⟩
      · rw [if_neg hml]
        rw [nbeq hml]
        have had := h2.resolve_left (by omega)
        refine .slice hL ⟨hsub, .inr ?_, rfl⟩
        rw [had, Addr.add_none]; simp [Nat.add_assoc]
    · cases h
  | grown e =>
    simp only at h
    split at h
    · cases h
    rename_i he
    have := Nat.eq_of_beq_eq_true he
    subst this
    cases mx with
    | none =>
      simp only [Option.getD_none] at h ⊢
      split at h
      · rename_i k2 k3
        have k2' := Nat.le_of_ble_eq_true k2
        have k3' := Nat.le_of_ble_eq_true k3
        cases h
        refine ⟨⟨Nat.le_refl _, by omega, k3'⟩, ?_⟩
        have hsub : hi.getD len - lo.getD 0 ≤ cap - lo.getD 0 := by omega
        by_cases hml : cap = lo.getD 0
        · rw [if_pos hml]
          exact .slice hL ⟨hsub, .inl (by omega), .inl (by omega)⟩
        · rw [if_neg hml]
          have had := h2.resolve_left (by omega)
          have hr := h3.resolve_left (by omega)
          refine .slice hL ⟨hsub, .inr (by rw [had, Addr.add_none]; simp [Nat.add_assoc]), .inr ?_⟩
          have : cap * e = lo.getD 0 * e + (cap - lo.getD 0) * e := by rw [← Nat.add_mul]; congr 1; omega
          omega
      · cases h
    | some m =>
      simp only [Option.getD_some] at h ⊢
      split at h
      · rename_i k1 k2 k3
        have k1' := Nat.le_of_ble_eq_true k1
        have k2' := Nat.le_of_ble_eq_true k2
        have k3' := Nat.le_of_ble_eq_true k3
        cases h
        refine ⟨⟨by omega, k2', k3'⟩, ?_⟩
        have hsub : hi.getD len - lo.getD 0 ≤ m - lo.getD 0 := by omega
        by_cases hml : m = lo.getD 0
        · rw [if_pos hml]
          have : Nat.beq m (lo.getD 0) = true := by rw [hml]; exact Nat.beq_refl _
          rw [this]
          exact .slice hL ⟨hsub, .inl (by omega), rfl⟩
        · rw [if_neg hml, nbeq hml]
          have had := h2.resolve_left (by omega)
          refine .slice hL ⟨hsub, .inr ?_, rfl⟩
          rw [had, Addr.add_none]; simp [Nat.add_assoc]
      · cases h

end Go.Ev

/- A verified evaluator. Part S21: cutting, indexes of values, assertions, maps that are made. -/
namespace Go.Ev

theorem bytesOf_extract (s : ByteArray) (l h : Nat) : bytesOf (s.extract l h) = ((bytesOf s).take h).drop l := by
  simp [bytesOf, ByteArray.data_extract, List.extract_eq_take_drop, List.map_take, List.map_drop, List.drop_take]

section
variable {P : Program} {E : Env} {ρ : Rho} {S : St} {w : World} {t : T AV} {nt : Nat} {a : Act} (C : Ctx P E ρ S w t nt a)
include C

theorem Ctx.opt {x : Option Operand} {v : Option AV} (h : optO E t x = .ok v) : OptV ρ v (x.map a.eval) := by
  unfold optO at h
  cases x with
  | none => cases h; exact .none
  | some x =>
    obtain ⟨m, h1, rfl⟩ := R.map_ok h
    exact .some (C.o h1)

theorem opSlice_ok {tt : TypeId} {x : Operand} {lo hi mx : Option Operand} {nx : ANext} (h : opSlice E t S tt x lo hi mx = .ok nx) :
    NextOK P ρ S w nx ((do pure (Next.value (← Instr.sliceAt tt (a.eval x) (lo.map a.eval) (hi.map a.eval) (mx.map a.eval))) : Sem Next).run P w) := by
  unfold opSlice at h
  obtain ⟨v, h1, q1⟩ := R.bind_ok h
  obtain ⟨vlo, h2, q2⟩ := R.bind_ok q1
  obtain ⟨vhi, h3, q3⟩ := R.bind_ok q2
  obtain ⟨vmx, h4, q4⟩ := R.bind_ok q3
  obtain ⟨r, q5, rfl⟩ := valR_ok q4
  have hx := C.o h1
  have olo := C.opt h2
  have ohi := C.opt h3
  have omx := C.opt h4
  unfold aSlice at q5
  obtain ⟨nlo, g1, q6⟩ := R.bind_ok q5
  obtain ⟨nhi, g2, q7⟩ := R.bind_ok q6
  obtain ⟨nmx, g3, q8⟩ := R.bind_ok q7
  obtain ⟨_, g4, q9⟩ := R.bind_ok q8
  obtain ⟨i, g5, h5⟩ := R.bind_ok q9
  have hg := R.guard_ok g4
  have hi' := tiOf_ok C.env g5
  have hu := hi'.run_und w
  have rlo := optN_ok g1 olo
  have rhi := optN_ok g2 ohi
  have rmx := optN_ok g3 omx
  generalize a.eval x = cx at hx
  generalize lo.map a.eval = clo at rlo
  generalize hi.map a.eval = chi at rhi
  generalize mx.map a.eval = cmx at rmx
  split at h5
  · rename_i s hd
    simp only at h5
    split at h5
    · rename_i k1 k2 k3
      have k2' := Nat.le_of_ble_eq_true k2
      have k3' := Nat.le_of_ble_eq_true k3
      cases h5
      cases rmx
      cases hx with | str hs =>
      rename_i b
      rw [hd] at hu
      subst hs
      rw [bytesOf_length] at k2' k3' ⊢
      have hb := sliceBounds_run (P := P) (w := w) (isSlice := false) (len := b.size) (cap := b.size) rlo rhi .none (by simp) (by simpa using k2') k3' hg
      refine quiet_val C (x := .string (b.extract (nlo.getD 0) (nhi.getD b.size))) ?_ (.str (bytesOf_extract _ _ _))
      simp only [Instr.sliceAt, Sem.run_bind, hu, Result.andThen_ok, Instr.slice, Option.isSome_none, Bool.false_eq_true, if_false, Sem.run_pure, hb]
    · cases h5
  · rename_i e hd
    obtain ⟨j, g6, h6⟩ := R.bind_ok h5
    have hj := tiOf_ok C.env g6
    cases hx
    split at h6
    · rename_i e1 e2 e3
      cases h6
      rw [hd] at hu
      have hb := sliceBounds_run (P := P) (w := w) (isSlice := true) (len := 0) (cap := 0) rlo rhi rmx (by omega) (by omega) (by omega) hg
      refine quiet_val C (x := .slice none 0 0) ?_ .snil
      simp only [Instr.sliceAt, Sem.run_bind, hu, Result.andThen_ok, Instr.slice, hb, hj.run_size w, Sem.run_pure, e1, e2, e3, if_true]
    · cases h6
  · rename_i e b o len c hd
    obtain ⟨j, g6, h6⟩ := R.bind_ok h5
    have hj := tiOf_ok C.env g6
    cases hx with | slice hL hc =>
    rename_i cap ad L
    obtain ⟨⟨k1, k2, k3⟩, hv⟩ := aSliceOf_ok h6 hL hc
    rw [hd] at hu
    have hb := sliceBounds_run (P := P) (w := w) (isSlice := true) (len := len) (cap := cap) rlo rhi rmx k1 k2 k3 hg
    refine quiet_val C (x := .slice (some (if nmx.getD cap = nlo.getD 0 then ad else ad.add (nlo.getD 0 * j.size))) (nhi.getD len - nlo.getD 0) (nmx.getD cap - nlo.getD 0)) ?_ hv
    simp only [Instr.sliceAt, Sem.run_bind, hu, Result.andThen_ok, Instr.slice, hb, hj.run_size w, Sem.run_pure]
    split <;> rfl
  · rename_i n e b o hd
    obtain ⟨j, g6, h6⟩ := R.bind_ok h5
    have hj := tiOf_ok C.env g6
    cases hx with | ptr hL =>
    rename_i L
    have hc : capOk L o n (.exact n) ⟨L.blk, L.sh + o, none⟩ n := ⟨Nat.le_refl _, .inr rfl, rfl⟩
    obtain ⟨⟨k1, k2, k3⟩, hv⟩ := aSliceOf_ok h6 hL hc
    rw [hd] at hu
    have hb := sliceBounds_run (P := P) (w := w) (isSlice := false) (len := n) (cap := n) rlo rhi rmx k1 k2 k3 hg
    have hsure : ∀ A : Addr, (Instr.sureAddr (.pointer (some A))).run P w = .ok A w := fun _ => rfl
    refine quiet_val C (x := .slice (some (if nmx.getD n = nlo.getD 0 then ⟨L.blk, L.sh + o, none⟩ else (⟨L.blk, L.sh + o, none⟩ : Addr).add (nlo.getD 0 * j.size))) (nhi.getD n - nlo.getD 0) (nmx.getD n - nlo.getD 0)) ?_ hv
    simp only [Instr.sliceAt, Sem.run_bind, hu, Result.andThen_ok, hsure, hb, hj.run_size w, Sem.run_pure]
  · cases h5

theorem opIndex_ok {tt : TypeId} {x y : Operand} {nx : ANext} (h : opIndex E t S tt x y = .ok nx) : NextOK P ρ S w nx ((do pure (Next.value (← Instr.index tt (a.eval x) (a.eval y))) : Sem Next).run P w) := by
  unfold opIndex at h
  obtain ⟨av, h1, q1⟩ := R.bind_ok h
  obtain ⟨iv, h2, q2⟩ := R.bind_ok q1
  obtain ⟨v, h3, rfl⟩ := valR_ok q2
  have hx := C.o h1
  have hy := C.o h2
  unfold aIndex at h3
  obtain ⟨n, h4, h5⟩ := R.bind_ok h3
  obtain ⟨i, h6, h7⟩ := R.bind_ok h5
  have hi := tiOf_ok C.env h6
  have hu := hi.run_und w
  generalize a.eval x = cx at hx
  generalize a.eval y = cy at hy
  obtain ⟨k, rfl⟩ := asN_ok h4 hy
  have hint : (asIntOf (.int k (n : Int))).run P w = .ok (k, (n : Int)) w := rfl
  split at h7
  · rename_i len e cs hd
    obtain ⟨j, h8, h9⟩ := R.bind_ok h7
    have hj := tiOf_ok C.env h8
    split at h9
    · rename_i hlt
      have hlt' : n < len := by simpa [Nat.blt_eq] using hlt
      cases hx with | agg hx =>
      obtain ⟨c, r1, r2⟩ := aPart_ok C.env h9 hx w
      rw [hd] at hu
      refine quiet_val C (x := c) ?_ r2
      have hcond : (0 : Int) ≤ n ∧ (n : Int) < (len : Nat) := by omega
      simp only [Instr.index, Sem.run_bind, hint, Result.andThen_ok, hu, hcond, and_self, if_true, hj.run_size w, Int.toNat_natCast, r1]
    · cases h9
  · rename_i s hd
    obtain ⟨b, h8, h9⟩ := R.bind_ok h7
    cases h9
    have hb := R.of_ok h8
    cases hx with | str hs =>
    rename_i ba
    subst hs
    rw [hd] at hu
    have hlt : n < ba.size := by
      rw [← bytesOf_length]; exact (List.getElem?_eq_some_iff.1 hb).1
    have hb' : ∃ c, ba[n]? = some c ∧ c.toNat = b := by
      simp only [bytesOf, List.getElem?_map, Option.map_eq_some_iff] at hb
      obtain ⟨c, e1, e2⟩ := hb
      refine ⟨c, ?_, e2⟩
      rw [Array.getElem?_toList] at e1
      rw [← e1]
      simp only [getElem?_pos, hlt]
      obtain ⟨h1, h2⟩ := Array.getElem?_eq_some_iff.1 e1
      rw [e1]
      simp only [ByteArray.getElem_eq_getElem_data]
      rw [h2]
    obtain ⟨c, e1, e2⟩ := hb'
    refine quiet_val C (x := .int .u8 (Int.ofNat b)) ?_ .int
    have h0 : (0 : Int) ≤ (n : Int) := by omega
    simp only [Instr.index, Sem.run_bind, hint, Result.andThen_ok, hu, h0, if_true, Int.toNat_natCast, e1, Sem.run_pure, e2, Int.ofNat_eq_natCast]
  · cases h7

theorem opMakeMap_ok {tt : TypeId} {r : Option Operand} {nx : ANext} (h : opMakeMap E t S tt r = .ok nx) :
    NextOK P ρ S w nx ((do pure (Next.value (← Instr.makeMap tt (r.map a.eval))) : Sem Next).run P w) := by
  have fin : ∀ (s : Sem Value), s.run P w = .ok (.map (some w.heap.size)) { w with heap := w.heap.push (.map #[] 0) } →
      NextOK P ρ S w (.val (.map (S.new (.map [] 0)).1) (S.new (.map [] 0)).2) ((do pure (Next.value (← s)) : Sem Next).run P w) := by
    intro s hs
    simp only [Sem.run_bind, hs, Result.andThen_ok, Sem.run_pure]
    have e : Ext ρ S w.heap (ρ.add S.next ⟨w.heap.size, 0, 0⟩) (S.new (.map [] 0)).2 (w.heap.push (.map #[] 0)) := by
      refine Ext.new C.hr (.map (cs := #[]) ?_ ⟨⟨[], .nil, .nil⟩, by simp, by simp⟩) ?_
      · rw [Array.getElem?_push, if_pos rfl]
      · intro g e; cases e
    refine .val (ρ' := ρ.add S.next ⟨w.heap.size, 0, 0⟩) e ?_
    rw [St.new_eq]
    have := VR.map (ρ := ρ.add S.next ⟨w.heap.size, 0, 0⟩) (r := S.next) Rho.add_at
    exact this
  unfold opMakeMap at h
  cases r with
  | none =>
    cases h
    exact fin _ rfl
  | some x =>
    obtain ⟨v, h1, h2⟩ := R.bind_ok h
    have hx := C.o h1
    split at h2
    · obtain ⟨ke, h3, h4⟩ := R.bind_ok h2
      cases h4
      unfold keyTypes at h3
      obtain ⟨i, h5, h6⟩ := R.bind_ok h3
      have hi := tiOf_ok C.env h5
      have hu := hi.run_und w
      split at h6
      · rename_i k e hd
        rw [hd] at hu
        refine fin _ ?_
        generalize he : a.eval x = cx at hx
        have key : ∃ n, (asInt cx).run P w = .ok n w := by cases hx; exact ⟨_, rfl⟩
        obtain ⟨n, key⟩ := key
        simp only [Instr.makeMap, Option.map_some, he, Sem.run_bind, hu, Result.andThen_ok, key, Sem.run_pure]
        rfl
      · cases h6
    · cases h2

omit C in
theorem failedA_ok {ok : Bool} {z : Option AV} {nx : ANext} (h : failedA S ok z = .ok nx) : ∃ zv, ok = true ∧ z = some zv ∧ nx = .val (.tup [zv, .bool false]) S := by
  unfold failedA at h
  split at h
  · cases h; exact ⟨_, rfl, rfl, rfl⟩
  · cases h

theorem opTypeAssert_ok {x : Operand} {xT tt : TypeId} {ok : Bool} {nx : ANext} (h : opTypeAssert E t S x tt ok = .ok nx) :
    NextOK P ρ S w nx ((do pure (Next.value (← Instr.typeAssert (a.eval x) xT tt ok)) : Sem Next).run P w) := by
  unfold opTypeAssert at h
  obtain ⟨v, h1, h2⟩ := R.bind_ok h
  obtain ⟨i, h3, h4⟩ := R.bind_ok h2
  have hi := tiOf_ok C.env h3
  have hu := hi.run_und w
  have hx := C.o h1
  generalize a.eval x = cx at hx
  have failed : ∀ (cx : Value), failedA S ok i.zero = .ok nx → (∀ zv, (zeroValue tt).run P w = .ok zv w → ok = true → (Instr.typeAssert cx xT tt ok).run P w = .ok (.tuple #[zv, .bool false]) w) →
      NextOK P ρ S w nx ((do pure (Next.value (← Instr.typeAssert cx xT tt ok)) : Sem Next).run P w) := by
    intro cx hf hr
    obtain ⟨zv, e1, e2, e3⟩ := failedA_ok hf
    subst e3
    obtain ⟨zc, z1, _, z3⟩ := hi.run_zero e2 w
    exact quiet_val C (x := .tuple #[zc, .bool false]) (hr zc z1 e1) (.tup (.cons (z3 ρ) (.cons .bool .nil)))
  cases hd : i.desc with
  | interface ms => rw [hd] at h4; cases h4
  | _ =>
    rw [hd] at h4 hu
    simp only at h4
    split at h4
    · rename_i u av
      cases hx with | iface hx =>
      rename_i cv
      split at h4
      · rename_i he
        have := Nat.eq_of_beq_eq_true he
        subst this
        cases h4
        cases ok
        · refine quiet_val C (x := cv) ?_ hx
          simp [Instr.typeAssert, hu]
        · refine quiet_val C (x := .tuple #[cv, .bool true]) ?_ (.tup (.cons hx (.cons .bool .nil)))
          simp [Instr.typeAssert, hu]
      · rename_i he
        have hne := ne_of_nbeq he
        refine failed _ h4 ?_
        intro zv hz hok
        subst hok
        simp [Instr.typeAssert, hu, hne, hz]
    · cases hx
      refine failed _ h4 ?_
      intro zv hz hok
      subst hok
      simp [Instr.typeAssert, hu, hz]
    · cases h4

end
end Go.Ev

/- A verified evaluator. Part S22: conversions. -/
namespace Go.Ev

theorem bytesA_ok {ρ : Rho} : ∀ {l : List AV} {s : List Nat} {c : List Value}, bytesA l = .ok s → VRs ρ l c → (∀ n ∈ s, n < 256) ∧ c = s.map fun n : Nat => Value.int .u8 (n : Int) := by
  intro l
  induction l with
  | nil => intro s c h hv; cases h; cases hv; exact ⟨by simp, rfl⟩
  | cons v l ih =>
    intro s c h hv
    cases hv with
    | cons hx hs =>
      unfold bytesA at h
      split at h
      · split at h
        · rename_i n hlt
          obtain ⟨s', h1, h2⟩ := R.bind_ok h
          cases h2
          cases hx
          obtain ⟨a, b⟩ := ih h1 hs
          refine ⟨?_, by rw [b]; rfl⟩
          intro m hm
          rcases List.mem_cons.1 hm with e | e
          · subst e; simpa [Nat.blt_eq] using hlt
          · exact a m e
        · cases h
      · cases h

theorem fold_push (ns : List Nat) (h : ∀ n ∈ ns, n < 256) : ∀ b : ByteArray, bytesOf ((ns.map fun n : Nat => (n : Int)).foldl (fun (r : ByteArray) (n : Int) => r.push (UInt8.ofNat n.toNat)) b) = bytesOf b ++ ns := by
  induction ns with
  | nil => intro b; simp
  | cons n ns ih =>
    intro b
    simp only [List.map_cons, List.foldl_cons, Int.toNat_natCast]
    rw [ih (fun m hm => h m (by simp [hm]))]
    have hn := h n (by simp)
    have : bytesOf (b.push (UInt8.ofNat n)) = bytesOf b ++ [n] := by
      simp only [bytesOf, ByteArray.push, Array.toList_push, List.map_append, List.map_cons, List.map_nil, UInt8.toNat_ofNat']
      rw [Nat.mod_eq_of_lt hn]
    rw [this]; simp

theorem encode_small {n : Nat} (h : n < 128) : bytesOf (Utf8.encode (n : Int)) = [n] := by
  have hv : Utf8.valid (n : Int) = true := by simp [Utf8.valid]; omega
  have : Utf8.encode (n : Int) = ⟨#[UInt8.ofNat n]⟩ := by
    unfold Utf8.encode
    simp only [hv, if_true, Int.toNat_natCast]
    rw [if_pos (by omega)]
  rw [this]
  simp [bytesOf]
  omega

section
variable {P : Program} {E : Env} {ρ : Rho} {S : St} {w : World} {t : T AV} {nt : Nat} {a : Act} (C : Ctx P E ρ S w t nt a)
include C

omit C in
theorem seenAt_cells {L : Loc} {off : Nat} {c : Array Value} {e : TypeId} {f : Nat × Nat} (h : w.heap[L.blk]? = some (.cells c e f)) :
    (Conv.seenAt ⟨L.blk, off, none⟩).run P w = .ok ⟨L.blk, off, none⟩ w := by
  have : w.shape? L.blk = some (e, c.size) := by simp [World.shape?, h]
  simp [Conv.seenAt, viewAt, this]

theorem opConvert_ok {src dst : TypeId} {x : Operand} {nx : ANext} (h : opConvert E t S src dst x = .ok nx) :
    NextOK P ρ S w nx ((do pure (Next.value (← convert src dst (a.eval x))) : Sem Next).run P w) := by
  unfold opConvert at h
  obtain ⟨v, h1, h2⟩ := R.bind_ok h
  obtain ⟨p, h3, rfl⟩ := valS_ok h2
  have hx := C.o h1
  generalize a.eval x = cx at hx
  unfold aConvert at h3
  obtain ⟨i, h4, h5⟩ := R.bind_ok h3
  obtain ⟨j, h6, h7⟩ := R.bind_ok h5
  have hi := tiOf_ok C.env h4
  have hj := tiOf_ok C.env h6
  have hu := hi.run_und w
  have hv := hj.run_und w
  split at h7
  · rename_i k hd
    rw [hd] at hv
    split at h7
    · rename_i k2 k3 n hd2
      cases h7
      cases hx
      rw [hd2] at hu
      refine quiet_val C (x := .int k (k.wrap n)) ?_ (by rw [wrapA_ok]; exact .int)
      simp only [convert, Sem.run_bind, hu, hv, Result.andThen_ok]
      rfl
    · cases h7
  · rename_i hd
    rw [hd] at hv
    split at h7
    · rename_i s hd2
      cases h7
      cases hx with | str hs =>
      rw [hd2] at hu
      refine quiet_val C (x := .string _) ?_ (.str hs)
      simp only [convert, Sem.run_bind, hu, hv, Result.andThen_ok, Sem.run_pure]
    · rename_i k k2 n hd2
      split at h7
      · rename_i hlt
        have hlt' : n < 128 := by simpa [Nat.blt_eq] using hlt
        cases h7
        cases hx
        rw [hd2] at hu
        refine quiet_val C (x := .string (Utf8.encode (n : Int))) ?_ (.str (encode_small hlt'))
        simp only [convert, Sem.run_bind, hu, hv, Result.andThen_ok]
        rfl
      · cases h7
    · rename_i e hd2
      obtain ⟨ei, h8, h9⟩ := R.bind_ok h7
      have he := (tiOf_ok C.env h8).run_und w
      split at h9
      · rename_i hd3
        cases h9
        cases hx
        rw [hd2] at hu
        rw [hd3] at he
        refine quiet_val C (x := .string .empty) ?_ (.str rfl)
        simp only [convert, Sem.run_bind, hu, hv, he, Result.andThen_ok]
        rfl
      · cases h9
    · rename_i e b o len c hd2
      obtain ⟨ei, h8, h9⟩ := R.bind_ok h7
      have he := (tiOf_ok C.env h8).run_und w
      split at h9
      · rename_i hd3
        obtain ⟨l, h10, h11⟩ := R.bind_ok h9
        obtain ⟨s, h12, h13⟩ := R.bind_ok h11
        cases h13
        cases hx with | slice hL hc =>
        rename_i cap ad L
        rw [hd2] at hu
        rw [hd3] at he
        obtain ⟨cs, c1, c2, c3, c4⟩ := load_ok (P := P) C.hr h10 hL
        obtain ⟨b1, b2⟩ := bytesA_ok h12 c1
        have hload : (loadCells ad len).run P w = .ok ((s.map fun n : Nat => (n : Int)).map (Value.int .u8)).toArray w := by
          rw [List.map_map]
          rcases hc.2.1 with h0 | h0
          · have : len = 0 := by have := hc.1; omega
            subst this
            have : s = [] := by
              have : cs = [] := List.length_eq_zero_iff.1 c2
              rw [this] at b2
              simpa using b2.symm
            subst this; rfl
          · rw [h0, c4, b2]; rfl
        refine quiet_val C (x := .string _) ?_ (.str (by rw [fold_push s b1 ByteArray.empty]; simp [bytesOf]))
        simp only [convert, Sem.run_bind, hu, hv, he, Result.andThen_ok]
        exact run_bytesToString w ad len cap _ hload
      · cases h9
    · cases h7
  · rename_i e hd
    rw [hd] at hv
    split at h7
    · rename_i s hd2
      obtain ⟨ei, h8, h9⟩ := R.bind_ok h7
      have he := (tiOf_ok C.env h8).run_und w
      split at h9
      · rename_i hd3
        cases h9
        cases hx with | str hs =>
        rename_i ba
        rw [hd2] at hu
        rw [hd3] at he
        let q : Question := .appendCap ba.size 0 e
        let cap := q.cut (w.tape w.drawn q)
        have hcapge : ba.size ≤ cap := Nat.le_add_right _ _
        let elems : Array Value := ba.data.map fun b => .int .u8 b.toNat
        let cells : Array Value := elems ++ Array.replicate (cap - ba.size) (.int .u8 0)
        have hes : elems.size = ba.size := by simp [elems]
        have hcs : cells.size = cap := by simp [cells, hes]; omega
        let w1 : World := { w with drawn := w.drawn + 1 }
        let w2 : World := { w1 with heap := w.heap.push (.cells cells e (0, 0)) }
        have hch : (choose q).run P w = .ok cap w1 := by rw [run_choose]; rfl
        have hnr : (newRow e cells).run P w1 = .ok ⟨w.heap.size, 0, none⟩ w2 := rfl
        have hsh : w2.shape? w.heap.size = some (e, cells.size) := by
          simp [World.shape?, w2]
        have hms : (markStringish ⟨w.heap.size, 0, none⟩).run P w2 = .ok () (w2.freeze ⟨w.heap.size, cells.size, none⟩ 1) := by
          simp [markStringish, hsh]
        have hheap : (w2.freeze ⟨w.heap.size, cells.size, none⟩ 1).heap = w.heap.push (.cells cells e (cells.size, cells.size + 1)) := by
          simp only [World.freeze, w2]
          apply Array.ext_getElem?
          intro k
          simp only [Nat.reduceEqDiff, if_false, Array.getElem?_modify, Array.getElem?_push]
          by_cases hk : k = w.heap.size
          · subst hk; simp
          · rw [if_neg (fun e => hk e.symm), if_neg hk, if_neg hk]
        have hrun : (convert src dst (.string ba)).run P w = .ok (.slice (some ⟨w.heap.size, 0, none⟩) ba.size cap) (w2.freeze ⟨w.heap.size, cells.size, none⟩ 1) := by
          simp only [convert, Sem.run_bind, hu, hv, he, Result.andThen_ok, Conv.stringToBytes]
          rw [hch]
          simp only [Result.andThen_ok]
          have := hnr
          rw [this]
          simp only [Result.andThen_ok, hms, Sem.run_pure]
        simp only [Sem.run_bind, hrun, Result.andThen_ok, Sem.run_pure]
        have hext := newRow_ok (elem := e) (c := cells) C.hr (cs := T.ofList .nil 0 (byteVals s)) (size := s.length) 0 false (cells.size, cells.size + 1)
          (by rw [← hs, bytesOf_length, hcs]; exact hcapge) ?_ ⟨fun j hj _ => .inr hj, (fun e => by cases e), fun e => absurd e (Nat.lt_irrefl _)⟩
        · refine .val (ρ' := ρ.add S.next ⟨w.heap.size, 0, cells.size⟩) (by rw [hheap]; exact hext) ?_
          rw [St.new_eq]
          have hbl : s.length = ba.size := by rw [← hs, bytesOf_length]
          rw [hbl]
          have hcok : capOk ⟨w.heap.size, 0, cells.size⟩ 0 ba.size (.grown 1) ⟨w.heap.size, 0, none⟩ cap := by
            refine ⟨hcapge, .inr rfl, .inr ?_⟩
            show 0 + 0 + cap * 1 ≤ cells.size
            omega
          exact .slice Rho.add_at hcok
        · intro k y hk
          rw [T.get_ofList, T.get_nil] at hk
          have hbl : (byteVals s).length = s.length := by simp [byteVals]
          by_cases q : 0 ≤ k ∧ k < 0 + (byteVals s).length
          · rw [if_pos q] at hk
            refine ⟨by omega, ?_⟩
            have hlt : k < ba.size := by rw [← bytesOf_length, hs]; omega
            have hlt2 : k < elems.size := by omega
            subst hs
            simp only [byteVals, bytesOf, List.map_map, Nat.sub_zero, List.getElem?_map, Option.map_eq_some_iff] at hk
            obtain ⟨y0, y1, y2⟩ := hk
            refine ⟨.int .u8 y0.toNat, ?_, ?_⟩
            · simp only [cells]
              rw [Array.getElem?_append_left hlt2]
              simp only [elems, Array.getElem?_map, Option.map_eq_some_iff]
              rw [Array.getElem?_toList] at y1
              exact ⟨y0, y1, rfl⟩
            · subst y2; exact .int
          · rw [if_neg q] at hk; cases hk
      · cases h9
    · cases h7
  · rename_i hd
    rw [hd] at hv
    split at h7
    · rename_i e hd2
      cases h7
      cases hx
      rw [hd2] at hu
      refine quiet_val C (x := .pointer none) ?_ .pnil
      simp only [convert, Sem.run_bind, hu, hv, Result.andThen_ok, Conv.unsafePointer, Sem.run_pure]
    · rename_i u b o hd2
      obtain ⟨ui, h8, h9⟩ := R.bind_ok h7
      have hui := tiOf_ok C.env h8
      split at h9
      · rename_i m cs size elem g fr pl hsz hb
        split at h9
        · rename_i hlt
          have hlt' : o < size := by simpa [Nat.blt_eq] using hlt
          cases h9
          cases hx with | ptr hL =>
          rename_i L
          obtain ⟨L', e1, e2⟩ := C.hr.objs b _ hb
          rw [hL] at e1; injection e1 with e1; subst e1
          cases e2 with
          | cells at_ hN hszl vals frz =>
          rename_i c f
          rw [hd2] at hu
          have hs1 := seenAt_cells (P := P) (off := L.sh + o) at_
          have hsh : w.shape? L.blk = some (elem, c.size) := by simp [World.shape?, at_]
          have hci : (cellsIn L.blk).run P w = .ok (some c.size) w := by simp [cellsIn, hsh]
          have hn1 : ¬ (c.size ≤ L.sh + o) := by omega
          refine quiet_val C (x := .pointer (some ⟨L.blk, L.sh + o, none⟩)) ?_ (.ptr hL)
          simp [convert, hu, hv, Conv.unsafePointer, hs1, hci, hui.run_size w, hsz, hn1]
        · cases h9
      · cases h9
    · rename_i b o hd2
      cases h7
      cases hx with | ptr hL =>
      rename_i L
      rw [hd2] at hu
      refine quiet_val C (x := .pointer (some ⟨L.blk, L.sh + o, none⟩)) ?_ (.ptr hL)
      simp only [convert, Sem.run_bind, hu, hv, Result.andThen_ok, Conv.unsafePointer, Sem.run_pure]
    · cases h7
  · rename_i u hd
    rw [hd] at hv
    split at h7
    · rename_i hd2
      cases h7
      cases hx
      rw [hd2] at hu
      refine quiet_val C (x := .pointer none) ?_ .pnil
      simp only [convert, Sem.run_bind, hu, hv, Result.andThen_ok, Conv.unsafePointer, Sem.run_pure]
    · rename_i b o hd2
      obtain ⟨ui, h8, h9⟩ := R.bind_ok h7
      have hui := tiOf_ok C.env h8
      split at h9
      · rename_i m cs size elem ro g fr hsz hb
        split at h9
        · rename_i hel hle
          have hel' := Nat.eq_of_beq_eq_true hel
          have hle' := Nat.le_of_ble_eq_true hle
          subst hel'
          cases h9
          cases hx with | ptr hL =>
          rename_i L
          obtain ⟨L', e1, e2⟩ := C.hr.objs b _ hb
          rw [hL] at e1; injection e1 with e1; subst e1
          cases e2 with
          | cells at_ hN hszl vals frz =>
          rename_i c f
          have hsh0 := (frz.2.1 rfl).2
          rw [hd2] at hu
          have hs1 := seenAt_cells (P := P) (off := L.sh + 0) at_
          have hsh : w.shape? L.blk = some (elem, c.size) := by simp [World.shape?, at_]
          have hcells : P.cellsOf elem = ui.size := by
            obtain ⟨inf, q1, q2, _⟩ := hui.info
            simp [Program.cellsOf, q1, q2]
          have hdp : P.depth = (2 * (P.types.size + Made.depth) + 1) + 1 := rfl
          have hlies : liesAt P P.depth elem (c.size / P.cellsOf elem) (L.sh + 0) elem 1 = true := by
            rw [hsh0, hdp]
            simp only [liesAt, Bool.or_eq_true]
            left
            rw [hdp]
            have : 0 < c.size / ui.size := Nat.div_pos (by omega) (by omega)
            rw [hsz] at this
            simp [rowAt, hcells, hsz, sameLayout]
            exact .inl this
          have hva : (variablesAt ⟨L.blk, L.sh + 0, none⟩ elem 1).run P w = .ok true w := by
            simp only [variablesAt, Sem.run_bind, run_program, Result.andThen_ok, run_shape, hsh, Sem.run_pure, hlies]
          refine quiet_val C (x := .pointer (some ⟨L.blk, L.sh + 0, none⟩)) ?_ (.ptr hL)
          simp only [convert, Sem.run_bind, hu, hv, Result.andThen_ok, Conv.unsafePointer, hs1, hui.run_size w, hsz, hva]
          simp
        · cases h9
      · cases h9
    · cases h7
  · cases h7

end
end Go.Ev

/- A verified evaluator. Part S23: maps: what is found. -/
namespace Go.Ev

def isHit (eq : AV → AV → R Bool) (k : AV) (e : AEnt) : Bool := match eq k e.key with | .ok b => b | .bad _ => false

theorem findKeyA_ok {eq : AV → AV → R Bool} {k : AV} : ∀ {es : List AEnt} {r : Option AEnt}, findKeyA eq k es = .ok r → (∀ e ∈ es, eq k e.key = .ok (isHit eq k e)) ∧ es.filter (isHit eq k) = r.toList := by
  intro es
  induction es with
  | nil => intro r h; cases h; exact ⟨by simp, rfl⟩
  | cons e es ih =>
    intro r h
    unfold findKeyA at h
    obtain ⟨b, h1, h2⟩ := R.bind_ok h
    obtain ⟨r', h3, h4⟩ := R.bind_ok h2
    obtain ⟨p, q⟩ := ih h3
    have hb : isHit eq k e = b := by unfold isHit; rw [h1]
    refine ⟨?_, ?_⟩
    · intro x hx
      rcases List.mem_cons.1 hx with c | c
      · subst c; rw [h1, hb]
      · exact p x c
    · unfold findOne at h4
      rw [List.filter_cons, hb, q]
      cases b with
      | false => cases h4; rfl
      | true =>
        cases r' with
        | none => cases h4; rfl
        | some _ => cases h4

def firstHit (hit : AEnt → Bool) : List AEnt → List MapEntry → Nat → Option (Nat × Value)
  | a :: as, e :: es, i => match hit a with | true => some (i, e.val) | false => firstHit hit as es (i + 1)
  | _, _, _ => none

theorem findAsking_ok {P : Program} {ρ : Rho} {w : World} {kt : TypeId} {ck : Value} {hit : AEnt → Bool} : ∀ {l : List AEnt} {cs : List MapEntry}, EntsR ρ l cs →
    (∀ a ∈ l, ∀ e, EntR ρ a e → (Op.equal kt ck e.key).run P w = .ok (hit a) w) → ∀ i, (Instr.findAsking kt ck cs i).run P w = .ok (firstHit hit l cs i) w := by
  intro l
  induction l with
  | nil => intro cs h _ i; cases h; rfl
  | cons a l ih =>
    intro cs h hh i
    cases h with
    | cons hx hs =>
      rename_i e cs
      unfold Instr.findAsking firstHit
      simp only [Sem.run_bind, hh a (by simp) e hx, Result.andThen_ok]
      cases hit a with
      | true => rfl
      | false => exact ih hs (fun b hb => hh b (by simp [hb])) (i + 1)

theorem findNow_ok {ρ : Rho} {kind : TypeDesc} {ck : Value} {hit : AEnt → Bool} : ∀ {l : List AEnt} {cs : List MapEntry} {i : Nat} {r : Option (Nat × Value)}, EntsR ρ l cs →
    (∀ a ∈ l, ∀ e, EntR ρ a e → ∀ b, Instr.sameNow kind ck e.key = some b → b = hit a) → Instr.findNow kind ck cs i = some r → r = firstHit hit l cs i := by
  intro l
  induction l with
  | nil => intro cs i r h _ hr; cases h; cases hr; rfl
  | cons a l ih =>
    intro cs i r h hh hr
    cases h with
    | cons hx hs =>
      rename_i e cs
      unfold Instr.findNow at hr
      unfold firstHit
      cases hq : Instr.sameNow kind ck e.key with
      | none => rw [hq] at hr; cases hr
      | some b =>
        have hb := hh a (by simp) e hx b hq
        rw [hq] at hr
        rw [← hb]
        cases b with
        | true => cases hr; rfl
        | false => exact ih hs (fun b hb => hh b (by simp [hb])) hr

/- What is compared at once is compared rightly. -/
theorem sameNow_ok {P : Program} {w : World} {kt : TypeId} {kind : TypeDesc} {x y : Value} {b : Bool} (hu : (underlying kt).run P w = .ok kind w) (h : Instr.sameNow kind x y = some b) : (Op.equal kt x y).run P w = .ok b w := by
  have key : ∀ d, (Op.equalIn (d + 1) kt x y).run P w = .ok b w := by
    intro d
    unfold Instr.sameNow at h
    split at h
    · split at h
      · rename_i hk
        subst hk
        cases h
        simp [Op.equalIn, hu]
      · cases h
    · cases h; simp [Op.equalIn, hu, beq_toListBytes]
    · cases h; simp [Op.equalIn, hu]
    · cases h
  exact key 9999

section
variable {P : Program} {E : Env} {ρ : Rho} {S : St} {w : World} (K : EnvOK P E) (H : HR ρ S w.heap) (F : FactsOK E ρ.sig)
include K H F

theorem keyEq_ok {kt : TypeId} {k k2 : AV} {ck c2 : Value} {b : Bool} (h : keyEqFn E S kt k k2 = .ok b) (h1 : VR ρ k ck) (h2 : VR ρ k2 c2) : (Op.equal kt ck c2).run P w = .ok b w :=
  aEq_ok K H F 8 kt k k2 ck c2 b h h1 h2 10000 (by omega)

/- Keys that are alike are one. -/
theorem keyEq_one {kt : TypeId} {ki : TI} {k k2 : AV} {ck c2 : Value} (hi : tiOf E kt = .ok ki) (hp : plainKey ki.desc = true) (q0 : keyEqFn E S kt k k2 = .ok true) (h1 : VR ρ k ck) (h2 : VR ρ k2 c2) :
    ck = c2 ∧ Instr.sameBits 10000 ck c2 = true := by
  have _ := K
  have _ := H
  unfold keyEqFn aEq at q0
  obtain ⟨i0, h0, h⟩ := R.bind_ok q0
  rw [hi] at h0
  cases h0
  clear q0
  cases hd : ki.desc <;> rw [hd] at hp h <;> first | (simp [plainKey] at hp; done) | skip
  · simp only at h
    split at h
    · cases h1; cases h2
      injection h with h
      have h' := eq_of_beq h
      subst h'
      exact ⟨rfl, by simp [Instr.sameBits]⟩
    · cases h
  · simp only at h
    split at h
    · split at h
      · rename_i hk
        have := of_decide_eq_true hk
        subst this
        cases h1; cases h2
        injection h with h
        rw [intEq_ok, beq_iff_eq] at h
        subst h
        exact ⟨rfl, by simp [Instr.sameBits]⟩
      · cases h
    · split at h
      · obtain ⟨ax, g1, g2⟩ := R.bind_ok h
        obtain ⟨ay, g3, g4⟩ := R.bind_ok g2
        obtain ⟨rv, g5, g6⟩ := R.bind_ok g4
        have ex := sxOf_ok g1 h1
        have ey := sxOf_ok g3 h2
        obtain ⟨_, hv⟩ := aSxCmp_ok (P := P) (w := w) F g5
        subst hv; subst ex; subst ey
        have hc : cmpOf .eql (ax.eval ρ.sig) (ay.eval ρ.sig) = true := by injection g6
        simp only [cmpOf, beq_iff_eq] at hc
        rw [hc]
        exact ⟨rfl, by simp [Instr.sameBits]⟩
      · cases h
  · simp only at h
    split at h
    · injection h with h
      rw [eqNats_iff] at h
      cases h1 with | str e1 => cases h2 with | str e2 =>
      have := bytesOf_inj (e1.trans (h.trans e2.symm))
      subst this
      exact ⟨rfl, by simp [Instr.sameBits, beq_toListBytes]⟩
    · cases h
  · simp only at h
    split at h
    · cases h1; cases h2
      exact ⟨rfl, by simp [Instr.sameBits]⟩
    · cases h
    · cases h
    · obtain ⟨j, g1, g2⟩ := R.bind_ok h
      split at g2
      · cases g2
      · unfold aEqPtr at g2
        split at g2
        · rename_i hb
          have := Nat.eq_of_beq_eq_true hb
          subst this
          injection g2 with g2
          have := Nat.eq_of_beq_eq_true g2
          subst this
          cases h1 with | ptr e1 => cases h2 with | ptr e2 =>
          rw [e1] at e2; injection e2 with e2; subst e2
          exact ⟨rfl, by simp [Instr.sameBits]⟩
        · split at g2
          · split at g2 <;> cases g2
          · cases g2
    · cases h

theorem findKey_ok {kt : TypeId} {k : AV} {ck : Value} {es l : List AEnt} {cs : List MapEntry} {r : Option AEnt} {ki : TI} (hi : tiOf E kt = .ok ki) (h : findKeyA (keyEqFn E S kt) k es = .ok r) (hk : VR ρ k ck)
    (hp : l.Perm es) (hl : EntsR ρ l cs) : (Instr.findKey kt ck cs).run P w = .ok (firstHit (isHit (keyEqFn E S kt) k) l cs 0) w ∧ l.filter (isHit (keyEqFn E S kt) k) = r.toList ∧
      ∀ e ∈ l, keyEqFn E S kt k e.key = .ok (isHit (keyEqFn E S kt) k e) := by
  obtain ⟨p, q⟩ := findKeyA_ok h
  have hu := (tiOf_ok K hi).run_und w
  have hall : ∀ a ∈ l, keyEqFn E S kt k a.key = .ok (isHit (keyEqFn E S kt) k a) := fun a ha => p a (hp.mem_iff.1 ha)
  have hcmp : ∀ a ∈ l, ∀ e, EntR ρ a e → (Op.equal kt ck e.key).run P w = .ok (isHit (keyEqFn E S kt) k a) w := fun a ha e he => keyEq_ok K H F (hall a ha) hk he.key
  refine ⟨?_, ?_, hall⟩
  · unfold Instr.findKey
    simp only [Sem.run_bind, hu, Result.andThen_ok]
    cases hf : Instr.findNow ki.desc ck cs 0 with
    | some r2 =>
      have := findNow_ok hl (fun a ha e he b hb => by
        have e1 := sameNow_ok hu hb
        have e2 := hcmp a ha e he
        rw [e1] at e2; injection e2) hf
      rw [this]; rfl
    | none => exact findAsking_ok hl hcmp 0
  · have hperm := hp.filter (isHit (keyEqFn E S kt) k)
    rw [q] at hperm
    cases r with
    | none => exact List.perm_nil.1 hperm
    | some x => exact List.perm_singleton.1 hperm
end

/- Where the one hit is. -/
theorem firstHit_none {ρ : Rho} {hit : AEnt → Bool} : ∀ {l : List AEnt} {cs : List MapEntry} {i : Nat}, EntsR ρ l cs → l.filter hit = [] → firstHit hit l cs i = none := by
  intro l
  induction l with
  | nil => intro cs i h _; cases h; rfl
  | cons a l ih =>
    intro cs i h hf
    cases h with
    | cons hx hs =>
      rw [List.filter_cons] at hf
      unfold firstHit
      cases hh : hit a with
      | true => rw [hh] at hf; cases hf
      | false => rw [hh] at hf; exact ih hs hf

theorem firstHit_some {ρ : Rho} {hit : AEnt → Bool} {x : AEnt} : ∀ {l : List AEnt} {cs : List MapEntry} {i : Nat}, EntsR ρ l cs → l.filter hit = [x] →
    ∃ l1 l2 c1 ex c2, l = l1 ++ x :: l2 ∧ cs = c1 ++ ex :: c2 ∧ EntsR ρ l1 c1 ∧ EntR ρ x ex ∧ EntsR ρ l2 c2 ∧ firstHit hit l cs i = some (i + c1.length, ex.val) ∧ hit x = true := by
  intro l
  induction l with
  | nil => intro cs i h hf; cases hf
  | cons a l ih =>
    intro cs i h hf
    cases h with
    | cons hx hs =>
      rename_i e cs
      rw [List.filter_cons] at hf
      unfold firstHit
      cases hh : hit a with
      | true =>
        rw [hh] at hf
        simp only [if_true, List.cons.injEq] at hf
        obtain ⟨h1, h2⟩ := hf
        subst h1
        exact ⟨[], l, [], e, cs, rfl, rfl, .nil, hx, hs, rfl, hh⟩
      | false =>
        rw [hh] at hf
        obtain ⟨l1, l2, c1, ex, c2, e1, e2, e3, e4, e5, e6, e7⟩ := ih (i := i + 1) hs hf
        refine ⟨a :: l1, l2, e :: c1, ex, c2, by rw [e1]; rfl, by rw [e2]; rfl, .cons hx e3, e4, e5, ?_, e7⟩
        rw [e6]; simp; omega

end Go.Ev

/- A verified evaluator. Part S24: maps: looking up, storing, deleting. -/
namespace Go.Ev

def Obj.isCells : Obj → Bool
  | .cells _ _ _ => true
  | _ => false

theorem run_getObj {P : Program} {w : World} {r : Nat} {o : Obj} (h : w.heap[r]? = some o) (hn : Obj.isCells o = false := by rfl) : (getObj r).run P w = .ok o w := by
  simp only [getObj, Sem.run, h]
  cases o <;> first | rfl | (cases hn)

theorem checkKey_plain {P : Program} {w : World} {kt : TypeId} {i : TI} (hi : TIok P kt i) (hp : plainKey i.desc = true) (e : Bool) (k : Value) :
    (Instr.checkKey e 10000 kt k).run P w = .ok () w := by
  have hu := hi.run_und w
  unfold Instr.checkKey
  simp only [Sem.run_bind, hu, Result.andThen_ok]
  cases hd : i.desc <;> rw [hd] at hp <;> first | (simp [plainKey] at hp; done) | rfl

theorem EntsR.append {ρ : Rho} : ∀ {l1 : List AEnt} {c1 : List MapEntry} {l2 : List AEnt} {c2 : List MapEntry}, EntsR ρ l1 c1 → EntsR ρ l2 c2 → EntsR ρ (l1 ++ l2) (c1 ++ c2)
  | _, _, _, _, .nil, h => h
  | _, _, _, _, .cons x xs, h => .cons x (xs.append h)

theorem EntsR.length {ρ : Rho} : ∀ {l : List AEnt} {c : List MapEntry}, EntsR ρ l c → l.length = c.length
  | _, _, .nil => rfl
  | _, _, .cons _ xs => by simp [xs.length]

theorem EntsR.borns {ρ : Rho} : ∀ {l : List AEnt} {c : List MapEntry}, EntsR ρ l c → l.map (·.born) = c.map (·.born)
  | _, _, .nil => rfl
  | _, _, .cons x xs => by simp [x.born, xs.borns]

theorem keyTypes_ok {P : Program} {E : Env} (K : EnvOK P E) {t : TypeId} {ke : TypeId × TypeId} (h : keyTypes E t = .ok ke) : ∀ w : World, (underlying t).run P w = .ok (.map ke.1 ke.2) w := by
  intro w
  unfold keyTypes at h
  obtain ⟨i, h1, h2⟩ := R.bind_ok h
  have hu := (tiOf_ok K h1).run_und w
  split at h2
  · rename_i k e hd
    cases h2
    rw [hd] at hu; exact hu
  · cases h2

/- What an abstract map says of the real one. -/
theorem mapOf_ok {ρ : Rho} {S : St} {h : Array Obj} (H : HR ρ S h) {r : Nat} {L : Loc} {ec : List AEnt × Nat} (hm : mapOf S r = .ok ec) (hL : ρ.loc r = some L) :
    S.heap.get r = some (.map ec.1 ec.2) ∧ ∃ cs : Array MapEntry, h[L.blk]? = some (.map cs ec.2) ∧ MapR ρ ec.1 ec.2 cs.toList := by
  unfold mapOf at hm
  split at hm
  · rename_i es c hb
    cases hm
    obtain ⟨L', e1, e2⟩ := H.objs r _ hb
    rw [hL] at e1; injection e1 with e1; subst e1
    cases e2 with | map at_ m => exact ⟨hb, _, at_, m⟩
  · cases hm

section
variable {P : Program} {E : Env} {ρ : Rho} {S : St} {w : World} {t : T AV} {nt : Nat} {a : Act} (C : Ctx P E ρ S w t nt a)
include C

theorem opLookup_ok {tt : TypeId} {x y : Operand} {ok : Bool} {nx : ANext} (h : opLookup E t S tt x y ok = .ok nx) :
    NextOK P ρ S w nx ((do pure (Next.value (← Instr.lookup tt (a.eval x) (a.eval y) ok)) : Sem Next).run P w) := by
  unfold opLookup at h
  obtain ⟨m, h1, h2⟩ := R.bind_ok h
  obtain ⟨k, h3, h4⟩ := R.bind_ok h2
  obtain ⟨v, h5, rfl⟩ := valR_ok h4
  have hm := C.o h1
  have hk := C.o h3
  generalize a.eval x = cm at hm
  generalize a.eval y = ck at hk
  unfold aLookup at h5
  obtain ⟨ke, g1, g2⟩ := R.bind_ok h5
  obtain ⟨ki, g3, g4⟩ := R.bind_ok g2
  obtain ⟨_, g5, g6⟩ := R.bind_ok g4
  obtain ⟨es, g7, g8⟩ := R.bind_ok g6
  obtain ⟨f, g9, g10⟩ := R.bind_ok g8
  obtain ⟨r, g11, g12⟩ := R.bind_ok g10
  have hp := R.guard_ok g5
  have hki := tiOf_ok C.env g3
  have hu := keyTypes_ok C.env g1 w
  cases g12
  -- the entries
  have tail : ∀ (cs : Array MapEntry) (l : List AEnt), l.Perm es → EntsR ρ l cs.toList → ∃ cv : Value, VR ρ r.1 cv ∧
      ((do
        Instr.checkKey cs.isEmpty 10000 ke.1 ck
        let (v, ok') ← match ← Instr.findKey ke.1 ck cs.toList with
          | some (_, v) => pure (v, true)
          | none => pure (← zeroValue ke.2, false)
        pure (if ok then .tuple #[v, .bool ok'] else v)) : Sem Value).run P w = .ok (if ok then .tuple #[cv, .bool r.2] else cv) w := by
    intro cs l l1 l2
    obtain ⟨k1, k2, k3⟩ := findKey_ok C.env C.hr C.facts g3 g9 hk l1 l2
    have hck := checkKey_plain (P := P) (w := w) hki hp cs.isEmpty ck
    cases f with
    | none =>
      have q0 : (zeroOf E ke.2).map (fun z => (z, false)) = .ok r := g11
      obtain ⟨z, q1, q2⟩ := R.map_ok q0
      unfold zeroOf at q1
      obtain ⟨i, q3, q4⟩ := R.bind_ok q1
      obtain ⟨v, z1, z2, z3⟩ := (tiOf_ok C.env q3).run_zero (R.of_ok q4) w
      subst q2
      rw [firstHit_none l2 k2] at k1
      exact ⟨v, z3 ρ, by simp only [Sem.run_bind, hck, k1, z1, Result.andThen_ok, Sem.run_pure]⟩
    | some e =>
      have q0 : R.ok (e.val, true) = R.ok r := g11
      cases q0
      obtain ⟨p1, p2, c1, ex, c2, e1, e2, e3, e4, e5, e6, e7⟩ := firstHit_some (i := 0) l2 k2
      rw [e6] at k1
      exact ⟨ex.val, e4.val, by simp only [Sem.run_bind, hck, k1, Result.andThen_ok, Sem.run_pure]⟩
  have fin : ∀ cv : Value, VR ρ r.1 cv → VR ρ (match (generalizing := false) ok with | true => .tup [r.1, .bool r.2] | false => r.1) (if ok then .tuple #[cv, .bool r.2] else cv) := by
    intro cv v1
    cases ok with
    | true => exact .tup (.cons v1 (.cons .bool .nil))
    | false => exact v1
  unfold entsOf at g7
  split at g7
  · cases g7; cases hm
    obtain ⟨cv, v1, v2⟩ := tail #[] [] .nil .nil
    refine quiet_val C ?_ (fin cv v1)
    rw [← v2]
    unfold Instr.lookup
    simp only [Sem.run_bind, hu, Result.andThen_ok, Sem.run_pure]
    rfl
  · obtain ⟨ec, q1, q2⟩ := R.map_ok g7
    subst q2
    cases hm with | map hL =>
    obtain ⟨_, cs, c1, c2⟩ := mapOf_ok C.hr q1 hL
    obtain ⟨l, l1, l2⟩ := c2.ents
    obtain ⟨cv, v1, v2⟩ := tail cs l l1 l2
    refine quiet_val C ?_ (fin cv v1)
    rw [← v2]
    unfold Instr.lookup
    simp only [Sem.run_bind, hu, run_getObj c1, Result.andThen_ok, Sem.run_pure]
    rfl
  · cases g7

end
end Go.Ev

/- A verified evaluator. Part S25: maps: storing, deleting. -/
namespace Go.Ev

theorem modify_mid {α : Type} (f : α → α) (c1 : List α) (x : α) (c2 : List α) : (c1 ++ x :: c2).modify c1.length f = c1 ++ f x :: c2 := by
  induction c1 with
  | nil => rfl
  | cons y c1 ih => simp [List.modify_succ_cons, ih]

theorem eraseIdx_mid {α : Type} (c1 : List α) (x : α) (c2 : List α) : (c1 ++ x :: c2).eraseIdx c1.length = c1 ++ c2 := by
  induction c1 with
  | nil => rfl
  | cons y c1 ih => simp [ih]

theorem setBornA_ok {b : Nat} {v : AV} : ∀ {es es' : List AEnt}, setBornA b v es = .ok es' → ∃ p x q, es = p ++ x :: q ∧ x.born = b ∧ es' = p ++ { x with val := v } :: q := by
  intro es
  induction es with
  | nil => intro es' h; cases h
  | cons e es ih =>
    intro es' h
    unfold setBornA at h
    split at h
    · rename_i hb
      cases h
      exact ⟨[], e, es, rfl, Nat.eq_of_beq_eq_true hb, rfl⟩
    · obtain ⟨l, h1, h2⟩ := R.bind_ok h
      cases h2
      obtain ⟨p, x, q, e1, e2, e3⟩ := ih h1
      exact ⟨e :: p, x, q, by rw [e1]; rfl, e2, by rw [e3]; rfl⟩

theorem delBornA_ok {b : Nat} : ∀ {es es' : List AEnt}, delBornA b es = .ok es' → ∃ p x q, es = p ++ x :: q ∧ x.born = b ∧ es' = p ++ q := by
  intro es
  induction es with
  | nil => intro es' h; cases h
  | cons e es ih =>
    intro es' h
    unfold delBornA at h
    split at h
    · rename_i hb
      cases h
      exact ⟨[], e, _, rfl, Nat.eq_of_beq_eq_true hb, rfl⟩
    · obtain ⟨l, h1, h2⟩ := R.bind_ok h
      cases h2
      obtain ⟨p, x, q, e1, e2, e3⟩ := ih h1
      exact ⟨e :: p, x, q, by rw [e1]; rfl, e2, by rw [e3]; rfl⟩

theorem born_one {l : List AEnt} (hn : (l.map (·.born)).Nodup) {x y : AEnt} (hx : x ∈ l) (hy : y ∈ l) (h : x.born = y.born) : x = y := by
  induction l with
  | nil => cases hx
  | cons z l ih =>
    simp only [List.map_cons, List.nodup_cons, List.mem_map, not_exists, not_and] at hn
    rcases List.mem_cons.1 hx with a | a <;> rcases List.mem_cons.1 hy with b | b
    · rw [a, b]
    · exact absurd (a ▸ h.symm) (hn.1 y b)
    · exact absurd (b ▸ h) (hn.1 x a)
    · exact ih hn.2 a b

/- Two lists with the same entries, cut at entries with one stamp. -/
theorem perm_mid {l1 l2 p q : List AEnt} {x y : AEnt} (hp : (l1 ++ x :: l2).Perm (p ++ y :: q)) (hn : ((l1 ++ x :: l2).map (·.born)).Nodup) (h : x.born = y.born) :
    y = x ∧ (l1 ++ l2).Perm (p ++ q) := by
  have hy : y ∈ l1 ++ x :: l2 := hp.mem_iff.2 (by simp)
  have e : x = y := born_one hn (by simp) hy h
  subst e
  refine ⟨rfl, ?_⟩
  have a1 : (x :: (l1 ++ l2)).Perm (l1 ++ x :: l2) := List.perm_middle.symm
  have a2 : (p ++ x :: q).Perm (x :: (p ++ q)) := List.perm_middle
  exact (List.perm_cons x).1 (a1.trans (hp.trans a2))

theorem insertKey_perm (x : AEnt) (es : List AEnt) : (insertKey x es).Perm (x :: es) := by
  induction es with
  | nil => exact .refl _
  | cons e es ih =>
    unfold insertKey
    split
    · exact .refl _
    · exact (List.Perm.cons e ih).trans (.swap x e es)

/- A map turns. -/
theorem Ext.putMap {ρ : Rho} {S : St} {h : Array Obj} (H : HR ρ S h) {r : Nat} {L : Loc} {es es' : List AEnt} {c c' : Nat} {cs cs' : Array MapEntry}
    (hr : S.heap.get r = some (.map es c)) (hL : ρ.loc r = some L) (hat : h[L.blk]? = some (.map cs c)) (hm : MapR ρ es' c' cs'.toList) (hc : c ≤ c')
    (hsub : c' = c → ∀ e ∈ cs'.toList, ∃ e0 ∈ cs.toList, e0.born = e.born) :
    Ext ρ S h ρ (S.put r (.map es' c')) (h.setIfInBounds L.blk (.map cs' c')) := by
  have hlt : L.blk < h.size := H.bound r L hL
  refine Ext.put H hr rfl hL rfl (.map (cs := cs') ?_ hm) rfl ?_ (.inr ?_)
  · rw [Array.getElem?_setIfInBounds, if_pos rfl, if_pos hlt]
  · intro b' o2 g _ _ hg; cases hg
  · intro cs2 c2 h2
    cases h2
    exact ⟨cs, c, hat, hc, hsub⟩

theorem run_setObj {P : Program} {w : World} {r : Nat} {o o' : Obj} (h : w.heap[r]? = some o) (hn : Obj.isCells o = false := by rfl) : (setObj r o').run P w = .ok () { w with heap := w.heap.setIfInBounds r o' } := by
  simp only [setObj, Sem.run, h]
  cases o <;> first | rfl | (cases hn)

section
variable {P : Program} {E : Env} {ρ : Rho} {S : St} {w : World} {t : T AV} {nt : Nat} {a : Act} (C : Ctx P E ρ S w t nt a)
include C

theorem aMapSet_ok {tt : TypeId} {m k v : AV} {cm ck cv : Value} {S' : St} (h : aMapSet E S tt m k v = .ok S') (hm : VR ρ m cm) (hk : VR ρ k ck) (hv : VR ρ v cv) :
    ∃ w', (Instr.mapUpdate tt cm ck cv).run P w = .ok () w' ∧ Ext ρ S w.heap ρ S' w'.heap ∧ SameOs w w' := by
  unfold aMapSet at h
  obtain ⟨ke, g1, g2⟩ := R.bind_ok h
  obtain ⟨ki, g3, g4⟩ := R.bind_ok g2
  obtain ⟨_, g5, g6⟩ := R.bind_ok g4
  have hp := R.guard_ok g5
  have hki := tiOf_ok C.env g3
  have hu := keyTypes_ok C.env g1 w
  have hck := checkKey_plain (P := P) (w := w) hki hp false ck
  split at g6
  · rename_i r
    obtain ⟨ec, g7, g8⟩ := R.bind_ok g6
    obtain ⟨f, g9, g10⟩ := R.bind_ok g8
    cases hm with | map hL =>
    rename_i L
    obtain ⟨hget, cs, c1, c2⟩ := mapOf_ok C.hr g7 hL
    obtain ⟨l, l1, l2⟩ := c2.ents
    obtain ⟨k1, k2, k3⟩ := findKey_ok C.env C.hr C.facts g3 g9 hk l1 l2
    have hnod : (l.map (·.born)).Nodup := by rw [l2.borns]; exact c2.nodup
    cases f with
    | none =>
      cases g10
      rw [firstHit_none l2 k2] at k1
      refine ⟨{ w with heap := w.heap.setIfInBounds L.blk (.map (cs.push { key := ck, val := cv, born := ec.2 }) (ec.2 + 1)) }, ?_, ?_, ⟨rfl, rfl, rfl⟩⟩
      · unfold Instr.mapUpdate
        simp only [Sem.run_bind, hu, run_getObj c1, Result.andThen_ok, hck, k1]
        exact run_setObj c1
      · refine Ext.putMap C.hr hget hL c1 ?_ (by omega) (fun e => by omega)
        refine ⟨⟨l ++ [⟨k, v, ec.2⟩], ?_, ?_⟩, ?_, ?_⟩
        · refine List.Perm.trans ?_ (insertKey_perm _ _).symm
          exact (List.perm_append_singleton _ _).trans (l1.cons _)
        · rw [Array.toList_push]
          exact l2.append (.cons ⟨hk, hv, rfl⟩ .nil)
        · intro e he
          rw [Array.toList_push, List.mem_append] at he
          rcases he with he | he
          · have := c2.old e he; omega
          · simp at he; subst he; exact Nat.lt_succ_self _
        · rw [Array.toList_push, List.map_append, List.nodup_append]
          refine ⟨c2.nodup, by simp, ?_⟩
          intro a ha b hb
          simp at hb
          subst hb
          obtain ⟨e, he, rfl⟩ := List.mem_map.1 ha
          have := c2.old e he
          show e.born ≠ ec.2
          omega
    | some e =>
      have q0 : (setBornA e.born v ec.1).bind (fun es => R.ok (S.put r (.map es ec.2))) = .ok S' := g10
      obtain ⟨es', q1, q2⟩ := R.bind_ok q0
      cases q2
      obtain ⟨p1, p2, d1, ex, d2, e1, e2, e3, e4, e5, e6, e7⟩ := firstHit_some (i := 0) l2 k2
      rw [e6] at k1
      have hke := k3 e (by rw [e1]; simp)
      rw [e7] at hke
      obtain ⟨s1, s2⟩ := keyEq_one C.env C.hr C.facts g3 hp hke hk e4.key
      have hold : ((cs[0 + d1.length]?).map (·.key)).getD ck = ex.key := by
        have : cs[0 + d1.length]? = some ex := by
          rw [← Array.getElem?_toList, e2]; simp
        rw [this]; rfl
      have hkt : (Instr.keyThatStays ex.key ck).run P w = .ok ck w := by
        unfold Instr.keyThatStays
        rw [← s1] at s2 ⊢
        rw [if_pos s2]; rfl
      refine ⟨{ w with heap := w.heap.setIfInBounds L.blk (.map (cs.modify (0 + d1.length) fun e => { e with key := ck, val := cv }) ec.2) }, ?_, ?_, ⟨rfl, rfl, rfl⟩⟩
      · unfold Instr.mapUpdate
        simp only [Sem.run_bind, hu, run_getObj c1, Result.andThen_ok, hck, k1, hold, hkt]
        exact run_setObj c1
      · have hcs' : (cs.modify (0 + d1.length) fun e => { e with key := ck, val := cv }).toList = d1 ++ { ex with key := ck, val := cv } :: d2 := by
          rw [Array.toList_modify, e2, Nat.zero_add, modify_mid]
        obtain ⟨p, x, q, b1, b2, b3⟩ := setBornA_ok q1
        have hperm := l1
        rw [e1, b1] at hperm
        rw [e1] at hnod
        obtain ⟨f1, f2⟩ := perm_mid hperm hnod b2.symm
        refine Ext.putMap C.hr hget hL c1 ?_ (Nat.le_refl _) ?_
        · refine ⟨⟨p1 ++ { e with val := v } :: p2, ?_, ?_⟩, ?_, ?_⟩
          · rw [b3, f1]
            exact List.perm_middle.trans ((List.Perm.cons _ f2).trans List.perm_middle.symm)
          · rw [hcs']
            exact e3.append (.cons ⟨s1 ▸ e4.key, hv, e4.born⟩ e5)
          · intro y hy
            rw [hcs', List.mem_append, List.mem_cons] at hy
            rcases hy with hy | hy | hy
            · exact c2.old y (by rw [e2]; simp [hy])
            · subst hy; exact c2.old ex (by rw [e2]; simp)
            · exact c2.old y (by rw [e2]; simp [hy])
          · have := c2.nodup
            rw [e2] at this
            rw [hcs']
            simpa using this
        · intro _ y hy
          rw [hcs', List.mem_append, List.mem_cons] at hy
          rcases hy with hy | hy | hy
          · exact ⟨y, by rw [e2]; simp [hy], rfl⟩
          · subst hy; exact ⟨ex, by rw [e2]; simp, rfl⟩
          · exact ⟨y, by rw [e2]; simp [hy], rfl⟩
  · cases g6

theorem opMapSet_ok {tt : TypeId} {x y z : Operand} {nx : ANext} (h : opMapSet E t S tt x y z = .ok nx) :
    NextOK P ρ S w nx ((do Instr.mapUpdate tt (a.eval x) (a.eval y) (a.eval z); pure Next.skip : Sem Next).run P w) := by
  unfold opMapSet at h
  obtain ⟨m, h1, h2⟩ := R.bind_ok h
  obtain ⟨k, h3, h4⟩ := R.bind_ok h2
  obtain ⟨v, h5, h6⟩ := R.bind_ok h4
  obtain ⟨S', h7, rfl⟩ := unitS_ok h6
  obtain ⟨w', r1, r2, ro⟩ := aMapSet_ok C h7 (C.o h1) (C.o h3) (C.o h5)
  simp only [Sem.run_bind, r1, Result.andThen_ok, Sem.run_pure]
  exact .skip r2 ro

theorem aDelete_ok {tt : TypeId} {m k : AV} {cm ck : Value} {S' : St} (h : aDelete E S tt m k = .ok S') (hm : VR ρ m cm) (hk : VR ρ k ck) {ts : Array TypeId} (hts : ts[0]? = some tt) (type : TypeId) :
    ∃ w', (Builtin.delete_ ts type #[cm, ck]).run P w = .ok (.tuple #[]) w' ∧ Ext ρ S w.heap ρ S' w'.heap ∧ SameOs w w' := by
  unfold aDelete at h
  obtain ⟨ke, g1, g2⟩ := R.bind_ok h
  obtain ⟨ki, g3, g4⟩ := R.bind_ok g2
  obtain ⟨_, g5, g6⟩ := R.bind_ok g4
  have hp := R.guard_ok g5
  have hki := tiOf_ok C.env g3
  have hu := keyTypes_ok C.env g1 w
  have hck := fun e => checkKey_plain (P := P) (w := w) hki hp e ck
  have ha0 : (#[cm, ck] : Array Value)[0]? = some cm := rfl
  have ha1 : (#[cm, ck] : Array Value)[1]? = some ck := rfl
  split at g6
  · cases g6
    cases hm
    refine ⟨w, ?_, Ext.refl C.hr, .refl w⟩
    unfold Builtin.delete_
    simp only [hts, ha0, ha1, Sem.run_bind, hu, Result.andThen_ok, hck, Sem.run_pure]
  · rename_i r
    obtain ⟨ec, g7, g8⟩ := R.bind_ok g6
    obtain ⟨f, g9, g10⟩ := R.bind_ok g8
    cases hm with | map hL =>
    rename_i L
    obtain ⟨hget, cs, c1, c2⟩ := mapOf_ok C.hr g7 hL
    obtain ⟨l, l1, l2⟩ := c2.ents
    obtain ⟨k1, k2, k3⟩ := findKey_ok C.env C.hr C.facts g3 g9 hk l1 l2
    have hnod : (l.map (·.born)).Nodup := by rw [l2.borns]; exact c2.nodup
    cases f with
    | none =>
      cases g10
      rw [firstHit_none l2 k2] at k1
      refine ⟨{ w with heap := w.heap.setIfInBounds L.blk (.map cs ec.2) }, ?_, ?_, ⟨rfl, rfl, rfl⟩⟩
      · unfold Builtin.delete_
        simp only [hts, ha0, ha1, Sem.run_bind, hu, run_getObj c1, Result.andThen_ok, hck, k1, run_setObj c1, Sem.run_pure]
      · have : w.heap.setIfInBounds L.blk (.map cs ec.2) = w.heap := by
          apply Array.ext_getElem?
          intro j
          rw [Array.getElem?_setIfInBounds]
          by_cases e : L.blk = j
          · subst e; rw [if_pos rfl, if_pos (C.hr.bound _ _ hL), c1]
          · rw [if_neg e]
        show Ext ρ S w.heap ρ S (w.heap.setIfInBounds L.blk (.map cs ec.2))
        rw [this]; exact Ext.refl C.hr
    | some e =>
      have q0 : (delBornA e.born ec.1).bind (fun es => R.ok (S.put r (.map es ec.2))) = .ok S' := g10
      obtain ⟨es', q1, q2⟩ := R.bind_ok q0
      cases q2
      obtain ⟨p1, p2, d1, ex, d2, e1, e2, e3, e4, e5, e6, e7⟩ := firstHit_some (i := 0) l2 k2
      rw [e6] at k1
      refine ⟨{ w with heap := w.heap.setIfInBounds L.blk (.map (cs.eraseIdxIfInBounds (0 + d1.length)) ec.2) }, ?_, ?_, ⟨rfl, rfl, rfl⟩⟩
      · unfold Builtin.delete_
        simp only [hts, ha0, ha1, Sem.run_bind, hu, run_getObj c1, Result.andThen_ok, hck, k1, run_setObj c1, Sem.run_pure]
      · have hcs' : (cs.eraseIdxIfInBounds (0 + d1.length)).toList = d1 ++ d2 := by
          rw [Array.toList_eraseIdxIfInBounds, e2, Nat.zero_add, eraseIdx_mid]
        obtain ⟨p, x, q, b1, b2, b3⟩ := delBornA_ok q1
        have hperm := l1
        rw [e1, b1] at hperm
        rw [e1] at hnod
        obtain ⟨f1, f2⟩ := perm_mid hperm hnod b2.symm
        refine Ext.putMap C.hr hget hL c1 ?_ (Nat.le_refl _) ?_
        · refine ⟨⟨p1 ++ p2, by rw [b3]; exact f2, by rw [hcs']; exact e3.append e5⟩, ?_, ?_⟩
          · intro y hy
            rw [hcs', List.mem_append] at hy
            exact c2.old y (by rw [e2]; rcases hy with hy | hy <;> simp [hy])
          · have := c2.nodup
            rw [e2] at this
            rw [hcs']
            simp only [List.map_append, List.map_cons] at this ⊢
            exact this.sublist (List.Sublist.append (List.Sublist.refl _) (List.sublist_cons_self _ _))
        · intro _ y hy
          rw [hcs', List.mem_append] at hy
          exact ⟨y, by rw [e2]; rcases hy with hy | hy <;> simp [hy], rfl⟩
  · cases g6

end
end Go.Ev
