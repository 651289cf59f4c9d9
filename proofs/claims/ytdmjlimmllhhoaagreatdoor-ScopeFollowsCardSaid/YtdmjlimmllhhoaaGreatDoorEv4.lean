/- A verified evaluator of closed calls of a translated program, part 4 of 4: what it says of a call holds of the model for every tape. Conditions: the tables are the program's (EnvOK), and the heap is as it is said to be (HR). -/
import Derived.Test.YtdmjlimmllhhoaaGreatDoorEv3
import Derived.Orders
import Derived.KernelRfl
import Derived.Laws.Externs
/- A verified evaluator. Part S36: a call's end. -/
namespace Go.Ev

/- Values that are known of older blocks alone. -/
mutual
theorem VR.under {ρ : Rho} {n : Nat} (hn : ∀ b L, ρ.loc b = some L → b < n) : ∀ {v : AV} {c : Value}, VR ρ v c → AV.under n v = true
  | _, _, .bool => rfl
  | _, _, .int => rfl
  | _, _, .sx => rfl
  | _, _, .byte _ => rfl
  | _, _, .str _ => rfl
  | _, _, .pnil => rfl
  | _, _, .ptr e => by simpa [AV.under, Nat.blt_eq] using hn _ _ e
  | _, _, .snil => rfl
  | _, _, .slice e _ => by simpa [AV.under, Nat.blt_eq] using hn _ _ e
  | _, _, .mnil => rfl
  | _, _, .map e => by simpa [AV.under, Nat.blt_eq] using hn _ _ e
  | _, _, .func hf ha hc => by
    have h1 := VRs.under hn ha
    have h2 := VRs.under hn hc
    simp only [AV.under, h1, h2, Bool.and_true]
    cases hf with
    | yield e => simpa [fnUnder, Nat.blt_eq] using hn _ _ e
    | same h => unfold fnUnder; split
                · exact absurd rfl (h _)
                · rfl
  | _, _, .nilFunc => rfl
  | _, _, .iface x => by simpa [AV.under] using VR.under hn x
  | _, _, .nilIface => rfl
  | _, _, .agg x => by simpa [AV.under] using VRs.under hn x
  | _, _, .tup x => by simpa [AV.under] using VRs.under hn x
theorem VRs.under {ρ : Rho} {n : Nat} (hn : ∀ b L, ρ.loc b = some L → b < n) : ∀ {v : List AV} {c : List Value}, VRs ρ v c → AV.unders n v = true
  | _, _, .nil => rfl
  | _, _, .cons x xs => by
    simp only [AV.unders, VR.under hn x, VRs.under hn xs]
end

theorem T.all_get {α : Type} {p : α → Bool} (q : P) : ∀ {t : T α} {v : α}, T.all p t = true → getL q t = some v → p v = true := by
  induction q with
  | here =>
    intro t v h e
    cases t with
    | nil => cases e
    | node x l r =>
      have e' : x = some v := e
      subst e'
      unfold T.all at h
      simp only at h
      split at h
      · assumption
      · cases h
  | L q ih =>
    intro t v h e
    cases t with
    | nil => cases e
    | node x l r =>
      unfold T.all at h
      split at h
      · split at h
        · rename_i h2; exact ih h2 e
        · cases h
      · cases h
  | R q ih =>
    intro t v h e
    cases t with
    | nil => cases e
    | node x l r =>
      unfold T.all at h
      split at h
      · split at h
        · exact ih h e
        · cases h
      · cases h

def Rho.cut (ρ : Rho) (n : Nat) : Rho := ⟨fun b => if b < n then ρ.loc b else none, ρ.sig⟩

theorem Rho.cut_lt {ρ : Rho} {n b : Nat} {L : Loc} (h : b < n) (e : ρ.loc b = some L) : (ρ.cut n).loc b = some L := by
  show (if b < n then ρ.loc b else none) = some L
  rw [if_pos h]; exact e

theorem Rho.cut_some {ρ : Rho} {n b : Nat} {L : Loc} (e : (ρ.cut n).loc b = some L) : b < n ∧ ρ.loc b = some L := by
  have e' : (if b < n then ρ.loc b else none) = some L := e
  by_cases h : b < n
  · rw [if_pos h] at e'; exact ⟨h, e'⟩
  · rw [if_neg h] at e'; cases e'

theorem VR.cut {ρ : Rho} {n : Nat} {v : AV} {c : Value} (h : VR ρ v c) (hu : AV.under n v = true) : VR (ρ.cut n) v c :=
  VR.restrict (ρ := ρ) (ρ' := ρ.cut n) rfl (fun _ _ q e => Rho.cut_lt q e) h hu

theorem EntsR.cut {ρ : Rho} {n : Nat} : ∀ {l : List AEnt} {c : List MapEntry}, EntsR ρ l c → (∀ e ∈ l, entUnder n e = true) → EntsR (ρ.cut n) l c
  | _, _, .nil, _ => .nil
  | _, _, .cons x xs, h => by
    have h1 := h _ (List.mem_cons_self)
    simp only [entUnder, Bool.and_eq_true] at h1
    exact .cons ⟨x.key.cut h1.1, x.val.cut h1.2, x.born⟩ (xs.cut fun e he => h e (List.mem_cons_of_mem _ he))

theorem TmR.cut {ρ : Rho} {n nt : Nat} {t : T AV} {a : Array Value} (h : TmR ρ nt t a) (hu : ∀ i v, t.get i = some v → AV.under n v = true) : TmR (ρ.cut n) nt t a := by
  refine ⟨h.size, fun i => ?_⟩
  have := h.vals i
  cases hq : t.get i with
  | none => rw [hq] at this; exact this.cut rfl
  | some v => rw [hq] at this; exact this.cut (hu i v hq)

/- An object that holds older blocks alone. -/
theorem OR.cut {ρ : Rho} {h : Array Obj} {o : AObj} {L : Loc} {n : Nat} (x : OR ρ h o L) (hu : AObj.under n o = true) : OR (ρ.cut n) h o L := by
  cases x with
  | cells at_ hN hsz vals frz =>
    simp only [AObj.under, Bool.and_eq_true] at hu
    exact .cells at_ hN hsz (fun i v e => let ⟨a, y, p, q⟩ := vals i v e; ⟨a, y, p, q.cut (T.all_get _ hu.2 e)⟩) frz
  | table at_ hN hsz vals =>
    simp only [AObj.under, Bool.and_eq_true] at hu
    exact .table at_ hN hsz (fun i v e => let ⟨a, y, p, q⟩ := vals i v e; ⟨a, y, p, q.cut (T.all_get _ hu.2 e)⟩)
  | map at_ m =>
    simp only [AObj.under, List.all_eq_true] at hu
    obtain ⟨l, p, q⟩ := m.ents
    exact .map at_ ⟨⟨l, p, q.cut fun e he => hu e (p.mem_iff.1 he)⟩, m.old, m.nodup⟩
  | siter at_ hs sh0 => exact .siter at_ hs sh0
  | miterNil at_ sh0 => exact .miterNil at_ sh0
  | miter at_ hM le left hl sh0 =>
    simp only [AObj.under, Nat.blt_eq] at hu
    exact .miter at_ (Rho.cut_lt hu hM) le left hl sh0
  | loop at_ hp hd ht =>
    simp only [AObj.under, Bool.and_eq_true, Nat.blt_eq] at hu
    exact .loop at_ hp (Rho.cut_lt hu.1 hd) (ht.cut fun i v e => T.all_get _ hu.2 e)
  | deferred at_ => exact .deferred at_

/- An object that has been known of all along. -/
theorem OR.cut_old {ρ0 ρ : Rho} {h0 h : Array Obj} {o : AObj} {L0 L : Loc} {n : Nat} (hn : ∀ b L, ρ0.loc b = some L → b < n) (x0 : OR ρ0 h0 o L0) (x : OR ρ h o L) : OR (ρ.cut n) h o L := by
  cases x with
  | cells at_ hN hsz vals frz =>
    obtain ⟨_, _, _, _, x0'⟩ := x0.read
    exact .cells at_ hN hsz (fun i v e => let ⟨a, y, p, q⟩ := vals i v e; ⟨a, y, p, q.cut (let ⟨_, _, _, q0⟩ := x0' i v e; q0.under hn)⟩) frz
  | table at_ hN hsz vals =>
    obtain ⟨_, _, _, _, x0'⟩ := x0.read
    exact .table at_ hN hsz (fun i v e => let ⟨a, y, p, q⟩ := vals i v e; ⟨a, y, p, q.cut (let ⟨_, _, _, q0⟩ := x0' i v e; q0.under hn)⟩)
  | map at_ m =>
    cases x0 with | map at0 m0 =>
    obtain ⟨l, p, q⟩ := m.ents
    obtain ⟨l0, p0, q0⟩ := m0.ents
    refine .map at_ ⟨⟨l, p, q.cut fun e he => ?_⟩, m.old, m.nodup⟩
    obtain ⟨e', _, hr⟩ := q0.get' e (p0.mem_iff.2 (p.mem_iff.1 he))
    simp only [entUnder, hr.key.under hn, hr.val.under hn, Bool.and_true]
  | siter at_ hs sh0 => exact .siter at_ hs sh0
  | miterNil at_ sh0 => exact .miterNil at_ sh0
  | miter at_ hM le left hl sh0 =>
    cases x0 with | miter at0 hM0 _ _ _ _ =>
    exact .miter at_ (Rho.cut_lt (hn _ _ hM0) hM) le left hl sh0
  | loop at_ hp hd ht =>
    cases x0 with | loop at0 hp0 hd0 ht0 =>
    refine .loop at_ hp (Rho.cut_lt (hn _ _ hd0) hd) (ht.cut fun i v e => ?_)
    have := ht0.vals i
    rw [e] at this
    exact this.under hn
  | deferred at_ => exact .deferred at_

theorem PansR.cut {ρ : Rho} {n : Nat} : ∀ {l : List APan} {c : List PanicEntry}, PansR ρ l c → l.all (panUnder n) = true → PansR (ρ.cut n) l c
  | _, _, .nil, _ => .nil
  | _, _, .cons hv hr hg hs, h => by
    simp only [List.all_cons, Bool.and_eq_true] at h
    exact .cons (hv.cut h.1) hr hg (hs.cut h.2)

theorem ModeR.cut {ρ : Rho} {n : Nat} {u : AMode} {m : FrameMode} (h : ModeR ρ u m) (hu : AMode.under n u = true) : ModeR (ρ.cut n) u m := by
  cases h with
  | run => exact .run
  | returning => exact .returning
  | panicking e => exact .panicking (e.cut hu)

theorem CsR.cut {ρ : Rho} {n : Nat} {k : CallKind} {u : AMode} {cs : List Frame} (h : CsR ρ k u cs) (hu : AMode.under n u = true) : CsR (ρ.cut n) k u cs := by
  cases h with
  | normal => exact .normal
  | deferred e => exact .deferred (e.cut hu)
  | early => exact .early

theorem Reach.cut {P : Program} {b : Frame} {fn : Func} {cs : List Frame} {e : AEnd} {u : AMode} {ρ : Rho} {n : Nat} {w : World} {m : Machine} (h : Reach P b fn cs e u ρ w m) (he : AEnd.under n e = true) (hu : AMode.under n u = true) :
    Reach P b fn cs e u (ρ.cut n) w m := by
  unfold Reach at h ⊢
  split at h
  · obtain ⟨fr', cs', hs, hend, hto, hcs⟩ := h
    refine ⟨fr', cs', hs, ?_, hto, hcs.cut hu⟩
    obtain ⟨e1, e2, e3, e4⟩ := hend
    refine ⟨e1, e2, e3, ?_⟩
    cases e with
    | ret v => obtain ⟨f1, c, f2, f3⟩ := e4; exact ⟨f1, c, f2, f3.cut he⟩
    | pan ch => obtain ⟨c, f1, f2⟩ := e4; exact ⟨c, f1, f2.cut he⟩
  · obtain ⟨c, rest, hc, hend⟩ := h
    refine ⟨c, rest, hc, ?_⟩
    cases e with
    | ret v => obtain ⟨x, f1, f2⟩ := hend; exact ⟨x, f1.cut he, f2⟩
    | pan ch => obtain ⟨x, f1, f2⟩ := hend; exact ⟨x, f1.cut he, f2⟩

/- The older ones of a log. -/
theorem olderOnes_mem {n : Nat} : ∀ {l : List Nat} {seen : T Bool} {b : Nat}, b ∈ olderOnes n l seen → b ∈ l ∧ b < n := by
  intro l
  induction l with
  | nil => intro seen b h; cases h
  | cons x l ih =>
    intro seen b h
    unfold olderOnes at h
    split at h
    · obtain ⟨a, c⟩ := ih h; exact ⟨List.mem_cons_of_mem _ a, c⟩
    · rename_i hx
      split at h
      · obtain ⟨a, c⟩ := ih h; exact ⟨List.mem_cons_of_mem _ a, c⟩
      · rcases List.mem_cons.1 h with e | e
        · subst e; exact ⟨List.mem_cons_self, by simpa [Nat.blt_eq] using hx⟩
        · obtain ⟨a, c⟩ := ih e; exact ⟨List.mem_cons_of_mem _ a, c⟩

theorem olderOnes_all {n : Nat} : ∀ {l : List Nat} {seen : T Bool} {b : Nat}, b ∈ l → b < n → (∃ x, seen.get b = some x) ∨ b ∈ olderOnes n l seen := by
  intro l
  induction l with
  | nil => intro seen b h; cases h
  | cons x l ih =>
    intro seen b h hb
    unfold olderOnes
    rcases List.mem_cons.1 h with e | e
    · subst e
      have hbl : Nat.blt b n = true := by rw [Nat.blt_eq]; exact hb
      rw [hbl]
      simp only
      cases hq : seen.get b with
      | some y => exact .inl ⟨y, rfl⟩
      | none => exact .inr List.mem_cons_self
    · cases hx : Nat.blt x n with
      | false => exact ih e hb
      | true =>
        simp only
        cases hq : seen.get x with
        | some y => exact ih e hb
        | none =>
          simp only
          rcases ih (seen := seen.set x true) e hb with ⟨y, hy⟩ | hm
          · by_cases c : b = x
            · subst c; exact .inr List.mem_cons_self
            · rw [T.get_set_ne _ _ _ _ c] at hy; exact .inl ⟨y, hy⟩
          · exact .inr (List.mem_cons_of_mem _ hm)

theorem sameGroup_ok {a b : Option Nat} (h : sameGroup a b = true) : a = b := by
  unfold sameGroup at h
  split at h
  · rfl
  · rw [Nat.eq_of_beq_eq_true h]
  · cases h

theorem patch_ok {n : Nat} {S0 S : St} : ∀ {l : List Nat} {h hp : T AObj}, patch n S0 S l h = some hp →
    (∀ b, hp.get b = if b ∈ l then S.heap.get b else h.get b) ∧ ∀ b ∈ l, ∀ o, S.heap.get b = some o → AObj.under n o = true ∧ ∃ o0, S0.heap.get b = some o0 ∧ o.group = o0.group := by
  intro l
  induction l with
  | nil => intro h hp e; cases e; exact ⟨fun b => by simp, fun b hb => by cases hb⟩
  | cons x l ih =>
    intro h hp e
    unfold patch at e
    cases hx : S.heap.get x with
    | none =>
      rw [hx] at e
      simp only at e
      obtain ⟨p, q⟩ := ih e
      refine ⟨fun b => ?_, fun b hb o ho => ?_⟩
      · rw [p]
        by_cases c : b ∈ l
        · rw [if_pos c, if_pos (List.mem_cons_of_mem _ c)]
        · rw [if_neg c]
          by_cases d : b = x
          · subst d; rw [T.get_del, if_pos List.mem_cons_self, hx]
          · rw [T.get_del_ne _ _ _ d, if_neg (by simp [c, d])]
      · rcases List.mem_cons.1 hb with d | d
        · subst d; rw [hx] at ho; cases ho
        · exact q b d o ho
    | some o =>
      rw [hx] at e
      simp only at e
      cases h0 : S0.heap.get x with
      | none => rw [h0] at e; cases e
      | some o0 =>
        rw [h0] at e
        simp only at e
        split at e
        · rename_i hc
          simp only [Bool.and_eq_true] at hc
          obtain ⟨p, q⟩ := ih e
          refine ⟨fun b => ?_, fun b hb o' ho => ?_⟩
          · rw [p]
            by_cases c : b ∈ l
            · rw [if_pos c, if_pos (List.mem_cons_of_mem _ c)]
            · rw [if_neg c]
              by_cases d : b = x
              · subst d; rw [T.get_set, if_pos List.mem_cons_self, hx]
              · rw [T.get_set_ne _ _ _ _ d, if_neg (by simp [c, d])]
          · rcases List.mem_cons.1 hb with d | d
            · subst d; rw [hx] at ho; cases ho; exact ⟨hc.1, o0, h0, sameGroup_ok hc.2⟩
            · exact q b d o' ho
        · cases e

section
variable {P : Program} {b : Frame} {fn : Func} {ρ : Rho} {S : St} {w : World} {cs : List Frame} {m : Machine}

/- A way that is settled. -/
theorem settle_ok (H : HR ρ S w.heap) (hlog : S.log = []) {o o' : Out} (h : settle S o = some o') (hE : Ends P b fn ρ S w cs o m) : Ends P b fn ρ S w cs o' m ∧ o'.S.next = S.next ∧ o'.S.grp = S.grp := by
  unfold settle at h
  split at h
  · cases h
  · rename_i hu
    simp only [Bool.and_eq_true] at hu
    simp only at h
    split at h
    · cases h
    · rename_i hp hpp
      cases h
      refine ⟨?_, rfl, rfl⟩
      obtain ⟨ρ', w', he, hso, hre⟩ := hE
      obtain ⟨p, q⟩ := patch_ok hpp
      have hlt : ∀ b L, ρ.loc b = some L → b < S.next := fun b L e => H.lt e
      -- the heap that is left
      have hget : ∀ b, hp.get b = if b < S.next then o.S.heap.get b else none := by
        intro b
        rw [p]
        obtain ⟨l, e1, e2⟩ := he.log
        rw [hlog, List.append_nil] at e1
        by_cases hb : b < S.next
        · rw [if_pos hb]
          by_cases hm : b ∈ olderOnes S.next o.S.log .nil
          · rw [if_pos hm]
          · rw [if_neg hm]
            have : b ∉ l := by
              intro hbl
              rcases olderOnes_all (seen := .nil) (e1 ▸ hbl : b ∈ o.S.log) hb with ⟨x, hx⟩ | hx
              · rw [T.get_nil] at hx; cases hx
              · exact hm hx
            exact (e2 b this).symm
        · rw [if_neg hb]
          have hm : b ∉ olderOnes S.next o.S.log .nil := fun hm => hb (olderOnes_mem hm).2
          rw [if_neg hm]
          cases hq : S.heap.get b with
          | none => rfl
          | some x => obtain ⟨L, e, _⟩ := H.objs b x hq; exact absurd (H.lt e) hb
      have hsub : ∀ b x, hp.get b = some x → b < S.next ∧ o.S.heap.get b = some x := by
        intro b x e
        rw [hget] at e
        by_cases hb : b < S.next
        · rw [if_pos hb] at e; exact ⟨hb, e⟩
        · rw [if_neg hb] at e; cases e
      have hold : ∀ b x, hp.get b = some x → (AObj.under S.next x = true ∧ ∃ o0, S.heap.get b = some o0 ∧ x.group = o0.group) ∨ S.heap.get b = some x := by
        intro b x e
        obtain ⟨h1, h2⟩ := hsub b x e
        by_cases hm : b ∈ olderOnes S.next o.S.log .nil
        · exact .inl (q b hm x h2)
        · rw [p, if_neg hm] at e; exact .inr e
      have hg0 : ∀ b x g, hp.get b = some x → x.group = some g → ∃ x0, S.heap.get b = some x0 ∧ x0.group = some g := by
        intro b x g e hg
        rcases hold b x e with ⟨_, o0, e0, e1⟩ | e0
        · exact ⟨o0, e0, by rw [← e1]; exact hg⟩
        · exact ⟨x, e0, hg⟩
      refine ⟨ρ'.cut S.next, w', ?_, hso, hre.cut hu.1 hu.2⟩
      · refine ⟨⟨fun b L e => Rho.cut_lt (H.lt e) (he.le.1 b L e), he.le.2⟩, ⟨?_, ?_, ?_, ?_, ?_, ?_⟩, he.size, he.keep, ?_, Nat.le_refl _, ?_, ?_, ?_⟩
        · intro b x e
          obtain ⟨h1, h2⟩ := hsub b x e
          obtain ⟨L, e1, e2⟩ := he.hr.objs b x h2
          refine ⟨L, Rho.cut_lt h1 e1, ?_⟩
          rcases hold b x e with ⟨hund, _⟩ | e0
          · exact e2.cut hund
          · obtain ⟨L0, e3, e4⟩ := H.objs b x e0
            exact OR.cut_old hlt e4 e2
        · intro b1 b2 x1 x2 L1 L2 g1 g2 l1 l2 hb
          exact he.hr.inj b1 b2 x1 x2 L1 L2 (hsub b1 x1 g1).2 (hsub b2 x2 g2).2 (Rho.cut_some l1).2 (Rho.cut_some l2).2 hb
        · intro b hb
          show (if b < S.next then ρ'.loc b else none) = none
          have hb' : S.next ≤ b := hb
          rw [if_neg (by omega)]
        · intro b L e; exact he.hr.bound b L (Rho.cut_some e).2
        · intro b1 b2 x1 x2 g hne g1 g2 q1 q2
          obtain ⟨y1, f1, f2⟩ := hg0 b1 x1 g g1 q1
          obtain ⟨y2, f3, f4⟩ := hg0 b2 x2 g g2 q2
          exact H.grp b1 b2 y1 y2 g hne f1 f3 f2 f4
        · intro b x g e hg
          obtain ⟨y, f1, f2⟩ := hg0 b x g e hg
          exact H.gnext b y g f1 f2
        · rintro k hk ⟨b1, x1, L1, e1, e2, e3, e4⟩
          exact he.own k hk ⟨b1, x1, L1, (hsub b1 x1 e1).2, e2, (Rho.cut_some e3).2, e4⟩
        · refine ⟨olderOnes S.next o.S.log .nil, by rw [hlog, List.append_nil], fun b hb => ?_⟩
          show hp.get b = _
          rw [p, if_neg hb]
        · intro b L e; exact he.fresh b L (Rho.cut_some e).2
        · rintro k hk ⟨b1, x1, L1, e1, e3, e4⟩
          exact he.anyAt k hk ⟨b1, x1, L1, (hsub b1 x1 e1).2, (Rho.cut_some e3).2, e4⟩

end
end Go.Ev

/- A verified evaluator. Part S37: ways are joined; calls at every depth. -/
namespace Go.Ev

mutual
theorem AV.same_eq : ∀ {a b : AV}, AV.same a b = true → a = b
  | .bool a, b, h => by cases b <;> simp only [AV.same] at h <;> first | (cases h; done) | (rw [eq_of_beq h])
  | .int j a, b, h => by
    cases b <;> simp only [AV.same] at h <;> first | (cases h; done) | skip
    split at h
    · rename_i hk
      have := of_decide_eq_true hk
      subst this
      rw [intEq_ok, beq_iff_eq] at h
      rw [h]
    · cases h
  | .sx a, b, h => by cases b <;> simp only [AV.same] at h <;> first | (cases h; done) | (rw [SX.same_ok h])
  | .byte a a', b, h => by
    cases b <;> simp only [AV.same] at h <;> first | (cases h; done) | skip
    split at h
    · rename_i e
      rw [Nat.eq_of_beq_eq_true e, Nat.eq_of_beq_eq_true h]
    · cases h
  | .str a, b, h => by cases b <;> simp only [AV.same] at h <;> first | (cases h; done) | (rw [(eqNats_iff _ _).1 h])
  | .pnil, b, h => by cases b <;> simp only [AV.same] at h <;> first | rfl | (cases h; done)
  | .ptr x y, b, h => by
    cases b <;> simp only [AV.same] at h <;> first | (cases h; done) | skip
    split at h
    · rename_i h1; rw [Nat.eq_of_beq_eq_true h1, Nat.eq_of_beq_eq_true h]
    · cases h
  | .snil, b, h => by cases b <;> simp only [AV.same] at h <;> first | rfl | (cases h; done)
  | .slice x y n c, b, h => by
    cases b <;> simp only [AV.same] at h <;> first | (cases h; done) | skip
    simp only [Bool.and_eq_true] at h
    obtain ⟨⟨⟨h1, h2⟩, h3⟩, h4⟩ := h
    rw [Nat.eq_of_beq_eq_true h1, Nat.eq_of_beq_eq_true h2, Nat.eq_of_beq_eq_true h3]
    split at h4
    · rw [Nat.eq_of_beq_eq_true h4]
    · rw [Nat.eq_of_beq_eq_true h4]
    · cases h4
  | .mnil, b, h => by cases b <;> simp only [AV.same] at h <;> first | rfl | (cases h; done)
  | .map x, b, h => by cases b <;> simp only [AV.same] at h <;> first | (cases h; done) | (rw [Nat.eq_of_beq_eq_true h])
  | .func f x y, b, h => by
    cases b <;> simp only [AV.same] at h <;> first | (cases h; done) | skip
    simp only [Bool.and_eq_true] at h
    obtain ⟨⟨h1, h2⟩, h3⟩ := h
    rw [of_decide_eq_true h1, AV.sames_eq h2, AV.sames_eq h3]
  | .nilFunc, b, h => by cases b <;> simp only [AV.same] at h <;> first | rfl | (cases h; done)
  | .iface t x, b, h => by
    cases b <;> simp only [AV.same] at h <;> first | (cases h; done) | skip
    split at h
    · rename_i h1; rw [Nat.eq_of_beq_eq_true h1, AV.same_eq h]
    · cases h
  | .nilIface, b, h => by cases b <;> simp only [AV.same] at h <;> first | rfl | (cases h; done)
  | .agg x, b, h => by cases b <;> simp only [AV.same] at h <;> first | (cases h; done) | (rw [AV.sames_eq h])
  | .tup x, b, h => by cases b <;> simp only [AV.same] at h <;> first | (cases h; done) | (rw [AV.sames_eq h])
theorem AV.sames_eq : ∀ {a b : List AV}, AV.sames a b = true → a = b
  | [], [], _ => rfl
  | [], _ :: _, h => by simp only [AV.sames] at h; cases h
  | _ :: _, [], h => by simp only [AV.sames] at h; cases h
  | x :: xs, y :: ys, h => by
    simp only [AV.sames] at h
    split at h
    · rename_i h1; rw [AV.same_eq h1, AV.sames_eq h]
    · cases h
end

theorem T.same_eq : ∀ {a b : T AV}, T.same AV.same a b = true → a = b
  | .nil, .nil, _ => rfl
  | .nil, .node _ _ _, h => by simp only [T.same] at h; cases h
  | .node _ _ _, .nil, h => by simp only [T.same] at h; cases h
  | .node v l r, .node v' l' r', h => by
    simp only [T.same, Bool.and_eq_true] at h
    obtain ⟨⟨h1, h2⟩, h3⟩ := h
    rw [T.same_eq h2, T.same_eq h3]
    split at h1
    · rfl
    · rw [AV.same_eq h1]
    · cases h1

theorem entsSame_eq : ∀ {a b : List AEnt}, entsSame a b = true → a = b
  | [], [], _ => rfl
  | [], _ :: _, h => by simp only [entsSame] at h; cases h
  | _ :: _, [], h => by simp only [entsSame] at h; cases h
  | ⟨k, v, n⟩ :: xs, ⟨k', v', n'⟩ :: ys, h => by
    simp only [entsSame, Bool.and_eq_true] at h
    obtain ⟨⟨⟨h1, h2⟩, h3⟩, h4⟩ := h
    rw [AV.same_eq h1, AV.same_eq h2, Nat.eq_of_beq_eq_true h3, entsSame_eq h4]

theorem AObj.same_eq {a b : AObj} (h : AObj.same a b = true) : a = b := by
  unfold AObj.same at h
  split at h
  · simp only [Bool.and_eq_true] at h
    obtain ⟨⟨⟨⟨⟨⟨h1, h2⟩, h3⟩, h4⟩, h5⟩, h6⟩, h7⟩ := h
    rw [Nat.eq_of_beq_eq_true h1, Nat.eq_of_beq_eq_true h2, eq_of_beq h3, Nat.eq_of_beq_eq_true h4, Nat.eq_of_beq_eq_true h5, eq_of_beq h6, T.same_eq h7]
  · simp only [Bool.and_eq_true] at h
    rw [Nat.eq_of_beq_eq_true h.1, entsSame_eq h.2]
  · simp only [Bool.and_eq_true] at h
    rw [(eqNats_iff _ _).1 h.1, Nat.eq_of_beq_eq_true h.2]
  · rfl
  · cases h

theorem unionL_left : ∀ {p : P} {a b : T (List Nat)} {l : List Nat}, getL p a = some l → ∃ l', getL p (T.unionL a b) = some l' ∧ ∀ x, x ∈ l → x ∈ l'
  | p, .nil, b, l, h => by rw [getL_nil] at h; cases h
  | p, .node v u r, .nil, l, h => ⟨l, h, fun _ h => h⟩
  | .here, .node v u r, .node v' u' r', l, h => by
    have h' : v = some l := h
    subst h'
    cases v' with
    | none => exact ⟨l, rfl, fun _ h => h⟩
    | some l2 =>
      refine ⟨_, rfl, fun x hx => ?_⟩
      cases eqNats l l2 with
      | true => exact hx
      | false => exact List.mem_append_left _ hx
  | .L p, .node v u r, .node v' u' r', l, h => unionL_left (p := p) (a := u) (b := u') h
  | .R p, .node v u r, .node v' u' r', l, h => unionL_left (p := p) (a := r) (b := r') h

theorem unionL_right : ∀ {p : P} {a b : T (List Nat)} {l : List Nat}, getL p b = some l → ∃ l', getL p (T.unionL a b) = some l' ∧ ∀ x, x ∈ l → x ∈ l'
  | p, .nil, b, l, h => ⟨l, h, fun _ h => h⟩
  | p, .node v u r, .nil, l, h => by rw [getL_nil] at h; cases h
  | .here, .node v u r, .node v' u' r', l, h => by
    have h' : v' = some l := h
    subst h'
    cases v with
    | none => exact ⟨l, rfl, fun _ h => h⟩
    | some l2 =>
      refine ⟨_, rfl, fun x hx => ?_⟩
      cases hq : eqNats l2 l with
      | true => have := (eqNats_iff _ _).1 hq; subst this; exact hx
      | false => exact List.mem_append_right _ hx
  | .L p, .node v u r, .node v' u' r', l, h => unionL_right (p := p) (a := u) (b := u') h
  | .R p, .node v u r, .node v' u' r', l, h => unionL_right (p := p) (a := r) (b := r') h

theorem meet_out {a b : St} : ∀ {l : List Nat} {h : T AObj} {k : Nat}, k ∉ l → (meet a b l h).get k = h.get k := by
  intro l
  induction l with
  | nil => intro h k _; rfl
  | cons x l ih =>
    intro h k hk
    have hkx : k ≠ x := fun c => hk (by simp [c])
    have hkl : k ∉ l := fun c => hk (by simp [c])
    unfold meet
    split
    · split
      · rw [ih hkl, T.get_set_ne _ _ _ _ hkx]
      · rw [ih hkl, T.get_del_ne _ _ _ hkx]
    · rw [ih hkl, T.get_del_ne _ _ _ hkx]

theorem meet_in {a b : St} : ∀ {l : List Nat} {h : T AObj} {k : Nat} {o : AObj}, k ∈ l → (meet a b l h).get k = some o → a.heap.get k = some o ∧ b.heap.get k = some o := by
  intro l
  induction l with
  | nil => intro h k o hk; cases hk
  | cons x l ih =>
    intro h k o hk e
    unfold meet at e
    by_cases hm : k ∈ l
    · split at e
      · split at e
        · exact ih hm e
        · exact ih hm e
      · exact ih hm e
    · have hkx : k = x := (List.mem_cons.1 hk).resolve_right hm
      subst hkx
      split at e
      · rename_i y z h1 h2
        split at e
        · rename_i hs
          rw [meet_out hm, T.get_set] at e
          cases e
          exact ⟨h1, by rw [h2, AObj.same_eq hs]⟩
        · rw [meet_out hm, T.get_del] at e; cases e
      · rw [meet_out hm, T.get_del] at e; cases e

section
variable {P : Program} {b : Frame} {fn : Func} {ρ : Rho} {S : St} {w : World} {cs : List Frame} {m : Machine}

/- Less may be said of a heap. -/
theorem Ends.less {o : Out} {hp : T AObj} {lg : List Nat} {gr : T (List Nat)} (hgr : ∀ g l, o.S.grp.get g = some l → ∃ l', gr.get g = some l' ∧ ∀ x, x ∈ l → x ∈ l') (hsub : ∀ k x, hp.get k = some x → o.S.heap.get k = some x) (hlog : ∃ l, lg = l ++ S.log ∧ ∀ k, k ∉ l → hp.get k = S.heap.get k)
    (hE : Ends P b fn ρ S w cs o m) : Ends P b fn ρ S w cs ⟨o.e, o.u, ⟨hp, o.S.next, gr, lg⟩⟩ m := by
  obtain ⟨ρ', w', he, hso, hre⟩ := hE
  refine ⟨ρ', w', ⟨he.le, ⟨?_, ?_, he.hr.next, he.hr.bound, ?_, ?_⟩, he.size, he.keep, ?_, he.nextle, hlog, he.fresh, ?_⟩, hso, hre⟩
  · intro k x e; exact he.hr.objs k x (hsub k x e)
  · intro k1 k2 x1 x2 L1 L2 e1 e2; exact he.hr.inj k1 k2 x1 x2 L1 L2 (hsub _ _ e1) (hsub _ _ e2)
  · intro k1 k2 x1 x2 g hne e1 e2 g1 g2
    obtain ⟨l, l1, l2, l3⟩ := he.hr.grp k1 k2 x1 x2 g hne (hsub _ _ e1) (hsub _ _ e2) g1 g2
    obtain ⟨l', m1, m2⟩ := hgr g l l1
    exact ⟨l', m1, m2 _ l2, m2 _ l3⟩
  · intro k x g e; exact he.hr.gnext k x g (hsub _ _ e)
  · rintro k hk ⟨k1, x1, L1, e1, e2⟩; exact he.own k hk ⟨k1, x1, L1, hsub _ _ e1, e2⟩
  · rintro k hk ⟨k1, x1, L1, e1, e2⟩; exact he.anyAt k hk ⟨k1, x1, L1, hsub _ _ e1, e2⟩

theorem Ends.log {o : Out} (hE : Ends P b fn ρ S w cs o m) : ∃ l, o.S.log = l ++ S.log ∧ ∀ k, k ∉ l → o.S.heap.get k = S.heap.get k := by
  obtain ⟨ρ', w', he, _⟩ := hE
  exact he.log

theorem joinOne_ok (hlog : S.log = []) {x y z : Out} (h : joinOne S x y = .ok z) (hE : Ends P b fn ρ S w cs x m ∨ Ends P b fn ρ S w cs y m) : Ends P b fn ρ S w cs z m := by
  obtain ⟨xe, xu, xS⟩ := x
  obtain ⟨ye, yu, yS⟩ := y
  unfold joinOne at h
  split at h
  · rename_i v v' he1 he2 hu1 hu2
    simp only at he1 he2 hu1 hu2
    subst he1; subst he2; subst hu1; subst hu2
    split at h
    · rename_i hv hn
      cases h
      have hv' := AV.same_eq hv
      subst hv'
      have hn' : xS.next = yS.next := Nat.eq_of_beq_eq_true hn
      have hlg : ∃ l, yS.log ++ xS.log = l ++ S.log ∧ ∀ k, k ∉ l → (meet xS yS (xS.log ++ yS.log) S.heap).get k = S.heap.get k :=
        ⟨yS.log ++ xS.log, by rw [hlog, List.append_nil], fun k hk => meet_out fun c => hk (by rcases List.mem_append.1 c with c | c <;> simp [c])⟩
      have inlog : ∀ (Z : St), (∃ l, Z.log = l ++ S.log ∧ ∀ k, k ∉ l → Z.heap.get k = S.heap.get k) → ∀ k, k ∉ Z.log → Z.heap.get k = S.heap.get k := by
        rintro Z ⟨l, e1, e2⟩ k hk
        rw [hlog, List.append_nil] at e1
        exact e2 k (e1 ▸ hk)
      rcases hE with hE | hE
      · have hx := inlog xS hE.log
        refine hE.less (o := ⟨.ret v, .run, xS⟩) (fun g l e => unionL_left e) (fun k z e => ?_) hlg
        by_cases hm : k ∈ xS.log ++ yS.log
        · exact (meet_in hm e).1
        · rw [meet_out hm] at e
          rw [hx k (fun c => hm (List.mem_append_left _ c))]; exact e
      · have hy := inlog yS hE.log
        have hE' : Ends P b fn ρ S w cs ⟨.ret v, .run, ⟨meet xS yS (xS.log ++ yS.log) S.heap, yS.next, T.unionL xS.grp yS.grp, yS.log ++ xS.log⟩⟩ m := by
          refine hE.less (o := ⟨.ret v, .run, yS⟩) (fun g l e => unionL_right e) (fun k z e => ?_) hlg
          by_cases hm : k ∈ xS.log ++ yS.log
          · exact (meet_in hm e).2
          · rw [meet_out hm] at e
            show yS.heap.get k = some z
            rw [hy k (fun c => hm (List.mem_append_right _ c))]; exact e
        rw [← hn'] at hE'
        exact hE'
    · cases h
    · cases h
  · cases h

theorem joinAll_ok (hlog : S.log = []) : ∀ {r : List Out} {a z : Out}, joinAll S a r = .ok z → (∃ o ∈ a :: r, Ends P b fn ρ S w cs o m) → Ends P b fn ρ S w cs z m := by
  intro r
  induction r with
  | nil =>
    rintro a z h ⟨o, ho, hE⟩
    cases h
    rw [List.mem_singleton] at ho
    subst ho; exact hE
  | cons y r ih =>
    rintro a z h ⟨o, ho, hE⟩
    have h' : (joinOne S a y).bind (fun c => joinAll S c r) = .ok z := h
    obtain ⟨c, h1, h2⟩ := R.bind_ok h'
    refine ih h2 ?_
    rcases List.mem_cons.1 ho with e | e
    · subst e; exact ⟨c, List.mem_cons_self, joinOne_ok hlog h1 (.inl hE)⟩
    · rcases List.mem_cons.1 e with e | e
      · subst e; exact ⟨c, List.mem_cons_self, joinOne_ok hlog h1 (.inr hE)⟩
      · exact ⟨o, List.mem_cons_of_mem _ e, hE⟩

theorem joinOuts_ok (H : HR ρ S w.heap) (hlog : S.log = []) {l : List Out} {z : Out} (h : joinOuts S l = .ok z) (hE : ∃ o ∈ l, Ends P b fn ρ S w cs o m) : Ends P b fn ρ S w cs z m := by
  have hE' : ∃ o ∈ l.map (settleOut S), Ends P b fn ρ S w cs o m := by
    obtain ⟨o, ho, hE⟩ := hE
    refine ⟨settleOut S o, List.mem_map_of_mem ho, ?_⟩
    unfold settleOut
    split
    · exact hE
    · split
      · exact hE
      · rename_i o' hs; exact (settle_ok H hlog hs hE).1
  unfold joinOuts at h
  generalize l.map (settleOut S) = l' at h hE'
  split at h
  · cases h
  · cases h
    obtain ⟨o, ho, hE⟩ := hE'
    rw [List.mem_singleton] at ho
    subst ho; exact hE
  · exact joinAll_ok hlog h hE'

end

theorem HR.fresh {ρ : Rho} {S : St} {h : Array Obj} (H : HR ρ S h) : HR ρ S.fresh h := by obtain ⟨a, b, c, d⟩ := S; exact ⟨H.objs, H.inj, H.next, H.bound, H.grp, H.gnext⟩

theorem Ends.underLog {P : Program} {b : Frame} {fn : Func} {ρ : Rho} {S : St} {w : World} {cs : List Frame} {m : Machine} {o : Out} (hE : Ends P b fn ρ S.fresh w cs o m) : Ends P b fn ρ S w cs (o.under S) m := by
  obtain ⟨oe, ou, ⟨oh, on, og, ol⟩⟩ := o
  obtain ⟨Sh, Sn, Sg, Sl⟩ := S
  obtain ⟨ρ', w', he, hso, hre⟩ := hE
  refine ⟨ρ', w', ⟨he.le, ⟨he.hr.objs, he.hr.inj, he.hr.next, he.hr.bound, he.hr.grp, he.hr.gnext⟩, he.size, he.keep, he.own, he.nextle, ?_, he.fresh, he.anyAt⟩, hso, hre⟩
  obtain ⟨l, e1, e2⟩ := he.log
  refine ⟨l, ?_, e2⟩
  have e1' : ol = l ++ [] := e1
  show ol ++ Sl = l ++ Sl
  rw [e1', List.append_nil]

/- CALLS AT EVERY DEPTH. -/
theorem nestNext_ok {P : Program} {E : Env} {N : Nest} (hdraw : ∀ b fn nt, DrawsOK P E b fn nt) (ih : NestOK P E N) : NestOK P E (nestNext E N) := by
  constructor
  · intro f args kind u S o ρ w cargs cs h K hg H F ha hcs
    have h' : close S (enterA E N f args kind u S.fresh) = .ok o := h
    unfold close at h'
    split at h'
    · cases h'
    · rename_i l hl
      split at h'
      · cases h'
      · rename_i z hz
        cases h'
        obtain ⟨fn, hf, hE⟩ := enter_ok ih hdraw hl K hg H.fresh F ha hcs
        have hlog : S.fresh.log = [] := by obtain ⟨a, b, c, d⟩ := S; rfl
        exact ⟨fn, hf, (joinOuts_ok H.fresh hlog hz hE).underLog⟩
  · intro l args S o ρ w cargs L c cs h K hg H F ha hL
    have h' : close S (roundA E N l args S.fresh) = .ok o := h
    unfold close at h'
    split at h'
    · cases h'
    · rename_i ls hl
      split at h'
      · cases h'
      · rename_i z hz
        cases h'
        obtain ⟨fid, tmps, as, bd, fn, hy, hE⟩ := round_ok (c := c) (cs := cs) ih hdraw hl K hg H.fresh F ha hL
        have hlog : S.fresh.log = [] := by obtain ⟨a, b, c, d⟩ := S; rfl
        exact ⟨fid, tmps, as, bd, fn, hy, (joinOuts_ok H.fresh hlog hz hE).underLog⟩

theorem nest_ok {P : Program} {E : Env} (hdraw : ∀ b fn nt, DrawsOK P E b fn nt) : ∀ n, NestOK P E (nest E n) := by
  intro n
  induction n with
  | zero =>
    constructor
    · intro f args kind u S o ρ w cargs cs h; cases h
    · intro l args S o ρ w cargs L c cs h; cases h
  | succ n ih => exact nestNext_ok hdraw ih

end Go.Ev

/- A verified evaluator. Part S38: what an operation hangs on; what only makes; blocks that come. -/
namespace Go.Ev

/- An operation hangs on its operands alone. -/
theorem evOs_congr {E : Env} {t t' : T AV} : ∀ {xs : List Operand}, (∀ x ∈ xs, evO E t x = evO E t' x) → evOs E t xs = evOs E t' xs
  | [], _ => rfl
  | x :: xs, h => by
    show (evO E t x).bind _ = (evO E t' x).bind _
    rw [h x List.mem_cons_self, evOs_congr fun y hy => h y (List.mem_cons_of_mem _ hy)]

theorem evParts_congr {E : Env} {t t' : T AV} : ∀ {xs : List (Nat × Operand)}, (∀ x ∈ xs, evO E t x.2 = evO E t' x.2) → evParts E t xs = evParts E t' xs
  | [], _ => rfl
  | x :: xs, h => by
    show (evO E t x.2).bind _ = (evO E t' x.2).bind _
    rw [h x List.mem_cons_self, evParts_congr fun y hy => h y (List.mem_cons_of_mem _ hy)]

theorem optO_congr {E : Env} {t t' : T AV} {x : Option Operand} (h : ∀ y ∈ x.toArray, evO E t y = evO E t' y) : optO E t x = optO E t' x := by
  cases x with
  | none => rfl
  | some y => show (evO E t y).map _ = (evO E t' y).map _; rw [h y (by simp)]

theorem evOp_congr {E : Env} {t t' : T AV} {S : St} {o : Op} (h : ∀ x ∈ o.operands, evO E t x = evO E t' x) : evOp E t S o = evOp E t' S o := by
  cases o <;> try rfl
  case move x => show valR S _ = valR S _; rw [h x (by simp [Op.operands])]
  case assign x => show valR S _ = valR S _; rw [h x (by simp [Op.operands])]
  case pick c x y =>
    show opPick E t S c x y = opPick E t' S c x y
    unfold opPick
    rw [h c (by simp [Op.operands])]
    have hx := h x (by simp [Op.operands])
    have hy := h y (by simp [Op.operands])
    congr 1
    funext v
    cases v <;> try rfl
    rename_i q
    cases q
    · show valR S (evO E t y) = valR S (evO E t' y); rw [hy]
    · show valR S (evO E t x) = valR S (evO E t' x); rw [hx]
  case box tt x => show opBox E t S tt x = opBox E t' S tt x; unfold opBox; rw [h x (by simp [Op.operands])]
  case build tt ps =>
    show opBuild E t S tt ps = opBuild E t' S tt ps
    unfold opBuild
    rw [evParts_congr fun x hx => h x.2 (by simp only [Op.operands, List.mem_toArray, List.mem_map]; exact ⟨x, hx, rfl⟩)]
  case buildSlice tt n ps =>
    show opBuildSlice E t S tt n ps = opBuildSlice E t' S tt n ps
    unfold opBuildSlice
    rw [evParts_congr fun x hx => h x.2 (by simp only [Op.operands, List.mem_toArray, List.mem_map]; exact ⟨x, hx, rfl⟩)]
  case insert tt m k x => show opMapSet E t S tt m k x = opMapSet E t' S tt m k x; unfold opMapSet; rw [h m (by simp [Op.operands]), h k (by simp [Op.operands]), h x (by simp [Op.operands])]
  case load tt x => show opLoad E t S tt x = opLoad E t' S tt x; unfold opLoad; rw [h x (by simp [Op.operands])]
  case store tt x y => show opStore E t S tt x y = opStore E t' S tt x y; unfold opStore; rw [h x (by simp [Op.operands]), h y (by simp [Op.operands])]
  case nilCheck x => show opNilCheck E t S x = opNilCheck E t' S x; unfold opNilCheck; rw [h x (by simp [Op.operands])]
  case binOp op tt x y yt => show opBin E t S op tt x y = opBin E t' S op tt x y; unfold opBin; rw [h x (by simp [Op.operands]), h y (by simp [Op.operands])]
  case unOp op tt x => show opUn E t S op x = opUn E t' S op x; unfold opUn; rw [h x (by simp [Op.operands])]
  case convert a b x => show opConvert E t S a b x = opConvert E t' S a b x; unfold opConvert; rw [h x (by simp [Op.operands])]
  case makeInterface tt x => show opMakeInterface E t S tt x = opMakeInterface E t' S tt x; unfold opMakeInterface; rw [h x (by simp [Op.operands])]
  case makeFunc fn a b =>
    show opMakeFunc E t S fn a b = opMakeFunc E t' S fn a b
    unfold opMakeFunc
    rw [evOs_congr fun x hx => h x (by simp only [Op.operands, Array.mem_append]; exact .inl (Array.mem_toList_iff.1 hx)),
      evOs_congr fun x hx => h x (by simp only [Op.operands, Array.mem_append]; exact .inr (Array.mem_toList_iff.1 hx))]
  case makeMap tt r =>
    show opMakeMap E t S tt r = opMakeMap E t' S tt r
    unfold opMakeMap
    cases r with
    | none => rfl
    | some x => simp only; rw [h x (by simp [Op.operands])]
  case makeSlice tt x y => show opMakeSlice E t S tt x y = opMakeSlice E t' S tt x y; unfold opMakeSlice; rw [h x (by simp [Op.operands]), h y (by simp [Op.operands])]
  case slice tt x lo hi mx =>
    show opSlice E t S tt x lo hi mx = opSlice E t' S tt x lo hi mx
    unfold opSlice
    have hlo : optO E t lo = optO E t' lo := optO_congr fun y hy => h y (by simp only [Op.operands, Array.mem_append]; exact .inl (.inl (.inr hy)))
    have hhi : optO E t hi = optO E t' hi := optO_congr fun y hy => h y (by simp only [Op.operands, Array.mem_append]; exact .inl (.inr hy))
    have hmx : optO E t mx = optO E t' mx := optO_congr fun y hy => h y (by simp only [Op.operands, Array.mem_append]; exact .inr hy)
    rw [h x (by simp [Op.operands]), hlo, hhi, hmx]
  case fieldAddr tt x f => show opFieldAddr E t S tt x f = opFieldAddr E t' S tt x f; unfold opFieldAddr; rw [h x (by simp [Op.operands])]
  case field tt x f => show opField E t S tt x f = opField E t' S tt x f; unfold opField; rw [h x (by simp [Op.operands])]
  case indexAddr tt x y => show opIndexAddr E t S tt x y = opIndexAddr E t' S tt x y; unfold opIndexAddr; rw [h x (by simp [Op.operands]), h y (by simp [Op.operands])]
  case index tt x y => show opIndex E t S tt x y = opIndex E t' S tt x y; unfold opIndex; rw [h x (by simp [Op.operands]), h y (by simp [Op.operands])]
  case lookup tt x y ok => show opLookup E t S tt x y ok = opLookup E t' S tt x y ok; unfold opLookup; rw [h x (by simp [Op.operands]), h y (by simp [Op.operands])]
  case mapUpdate tt m k x => show opMapSet E t S tt m k x = opMapSet E t' S tt m k x; unfold opMapSet; rw [h m (by simp [Op.operands]), h k (by simp [Op.operands]), h x (by simp [Op.operands])]
  case mapEntry tt m k => show opMapEntry E t S tt m k = opMapEntry E t' S tt m k; unfold opMapEntry; rw [h m (by simp [Op.operands]), h k (by simp [Op.operands])]
  case entryStore tt m k x => show opEntryStore E t S m k x = opEntryStore E t' S m k x; unfold opEntryStore; rw [h m (by simp [Op.operands]), h k (by simp [Op.operands]), h x (by simp [Op.operands])]
  case range tt x => show opRange E t S tt x = opRange E t' S tt x; unfold opRange; rw [h x (by simp [Op.operands])]
  case next x q => show opNext E t S x q = opNext E t' S x q; unfold opNext; rw [h x (by simp [Op.operands])]
  case entry x => show opEntry E t S x = opEntry E t' S x; unfold opEntry; rw [h x (by simp [Op.operands])]
  case typeAssert x xT tt ok => show opTypeAssert E t S x tt ok = opTypeAssert E t' S x tt ok; unfold opTypeAssert; rw [h x (by simp [Op.operands])]
  case extract x i => show opExtract E t S x i = opExtract E t' S x i; unfold opExtract; rw [h x (by simp [Op.operands])]
  case panic x => show opPanic E t S x = opPanic E t' S x; unfold opPanic; rw [h x (by simp [Op.operands])]
  case call c =>
    show evCall E t S c = evCall E t' S c
    unfold evCall
    rw [evOs_congr fun x hx => h x (by simp only [Op.operands, Call.operands, Array.mem_append]; exact .inr (Array.mem_toList_iff.1 hx))]
    cases hc : c.callee with
    | value f => simp only; rw [h f (by simp [Op.operands, Call.operands, hc])]
    | _ => rfl
  case defer c =>
    show evDefer E t c = evDefer E t' c
    unfold evDefer
    rw [evOs_congr fun x hx => h x (by simp only [Op.operands, Call.operands, Array.mem_append]; exact .inr (Array.mem_toList_iff.1 hx))]
    cases hc : c.callee with
    | value f => simp only; rw [h f (by simp [Op.operands, Call.operands, hc])]
    | _ => rfl

theorem evMake_congr {E : Env} {t t' : T AV} {o : Op} (h : ∀ x ∈ o.operands, evO E t x = evO E t' x) : evMake E t o = evMake E t' o := by
  cases o <;> try rfl
  case box tt x => show (evO E t x).bind _ = (evO E t' x).bind _; rw [h x (by simp [Op.operands])]
  case buildSlice tt n ps =>
    show (evParts E t ps.toList).bind _ = (evParts E t' ps.toList).bind _
    rw [evParts_congr fun x hx => h x.2 (by simp only [Op.operands, List.mem_toArray, List.mem_map]; exact ⟨x, hx, rfl⟩)]
  case makeSlice tt x y =>
    show (evO E t x).bind (fun l => (evO E t y).bind fun c => aMakeCells E tt l c) = (evO E t' x).bind (fun l => (evO E t' y).bind fun c => aMakeCells E tt l c)
    rw [h x (by simp [Op.operands]), h y (by simp [Op.operands])]
  case makeMap tt r => cases r <;> rfl

/- Pure operations do not look at the heap. -/
theorem valR_any {S S' : St} {r : R AV} {v : AV} {S1 : St} (h : valR S r = .ok (.val v S1)) : valR S' r = .ok (.val v S') := by
  unfold valR at h ⊢
  cases r with
  | ok a => cases h; rfl
  | bad w => cases h

theorem bind_any {α : Type} {r : R α} {f g : α → R ANext} {v : AV} {S1 S' : St} (h : r.bind f = .ok (.val v S1)) (hfg : ∀ a, f a = .ok (.val v S1) → g a = .ok (.val v S')) : r.bind g = .ok (.val v S') := by
  cases r with
  | ok a => exact hfg a h
  | bad w => cases h

theorem pure_any {E : Env} {t : T AV} {S S' S1 : St} {o : Op} {v : AV} (hk : opKind o = .pure) (h : evOp E t S o = .ok (.val v S1)) : evOp E t S' o = .ok (.val v S') := by
  cases o <;> first | (simp [opKind] at hk; done) | skip
  case makeMap tt r => cases r <;> simp [opKind] at hk
  case move x => exact valR_any h
  case assign x => exact valR_any h
  case pick c x y =>
    have h' : opPick E t S c x y = _ := h
    show opPick E t S' c x y = _
    unfold opPick at h' ⊢
    refine bind_any h' fun a ha => ?_
    cases a <;> first | (cases ha; done) | exact valR_any ha
  case build tt ps => exact bind_any (f := fun ps => valR S (aBuild E tt ps)) h fun a ha => valR_any ha
  case nilCheck x =>
    have h' : opNilCheck E t S x = _ := h
    show opNilCheck E t S' x = _
    unfold opNilCheck at h' ⊢
    refine bind_any h' fun a ha => ?_
    cases a <;> first | (cases ha; done) | (cases ha; rfl) | skip
    rename_i fn _ _
    cases fn <;> first | (cases ha; done) | (cases ha; rfl)
  case binOp op tt x y yt =>
    have h' : opBin E t S op tt x y = _ := h
    show opBin E t S' op tt x y = _
    unfold opBin at h' ⊢
    refine bind_any h' fun a ha => bind_any ha fun b hb => ?_
    unfold aBin at hb ⊢
    cases a with
    | sx e => exact bind_any hb fun c hc => valR_any hc
    | byte m r =>
      simp only at hb ⊢
      split at hb
      · split at hb
        · split at hb
          · split at hb
            · exact valR_any hb
            · cases hb
          · cases hb
        · cases hb
      · cases hb
    | int k n =>
      cases b with
      | int k' n' =>
        simp only at hb ⊢
        split at hb
        · exact valR_any hb
        · split at hb
          · exact valR_any hb
          · cases hb
      | sx e => exact bind_any hb fun c hc => valR_any hc
      | _ => cases hb
    | str s =>
      cases b with
      | str s' => exact valR_any hb
      | _ => cases hb
    | _ =>
      simp only at hb ⊢
      unfold aBinOther at hb
      cases op <;> first | (simp [opKind] at hk; done) | (cases hb; done)
  case unOp op tt x =>
    have h' : opUn E t S op x = _ := h
    show opUn E t S' op x = _
    unfold opUn at h' ⊢
    refine bind_any h' fun a ha => ?_
    cases op <;> cases a <;> first | (cases ha; done) | (cases ha; rfl) | exact valR_any ha
  case makeInterface tt x =>
    have h' : opMakeInterface E t S tt x = _ := h
    show opMakeInterface E t S' tt x = _
    unfold opMakeInterface at h' ⊢
    refine bind_any h' fun a ha => bind_any ha fun i hi => ?_
    generalize i.desc = d at hi ⊢
    cases d <;> first | (cases hi; done) | (cases hi; rfl)
  case makeFunc fn a b =>
    have h' : opMakeFunc E t S fn a b = _ := h
    show opMakeFunc E t S' fn a b = _
    unfold opMakeFunc at h' ⊢
    exact bind_any h' fun _ h1 => bind_any h1 fun _ h2 => bind_any h2 fun _ h3 => by cases h3; rfl
  case slice tt x lo hi mx =>
    have h' : opSlice E t S tt x lo hi mx = _ := h
    show opSlice E t S' tt x lo hi mx = _
    unfold opSlice at h' ⊢
    exact bind_any h' fun _ h1 => bind_any h1 fun _ h2 => bind_any h2 fun _ h3 => bind_any h3 fun _ h4 => valR_any h4
  case fieldAddr tt x f =>
    have h' : opFieldAddr E t S tt x f = _ := h
    show opFieldAddr E t S' tt x f = _
    unfold opFieldAddr at h' ⊢
    exact bind_any h' fun _ h1 => valR_any h1
  case field tt x f =>
    have h' : opField E t S tt x f = _ := h
    show opField E t S' tt x f = _
    unfold opField at h' ⊢
    exact bind_any h' fun _ h1 => valR_any h1
  case indexAddr tt x y =>
    have h' : opIndexAddr E t S tt x y = _ := h
    show opIndexAddr E t S' tt x y = _
    unfold opIndexAddr at h' ⊢
    exact bind_any h' fun _ h1 => bind_any h1 fun _ h2 => valR_any h2
  case index tt x y =>
    have h' : opIndex E t S tt x y = _ := h
    show opIndex E t S' tt x y = _
    unfold opIndex at h' ⊢
    exact bind_any h' fun _ h1 => bind_any h1 fun _ h2 => valR_any h2
  case typeAssert x xT tt ok =>
    have h' : opTypeAssert E t S x tt ok = _ := h
    show opTypeAssert E t S' x tt ok = _
    unfold opTypeAssert at h' ⊢
    refine bind_any h' fun a ha => bind_any ha fun i hi => ?_
    clear h h' ha hk
    have fail : ∀ z, failedA S ok z = .ok (.val v S1) → failedA S' ok z = .ok (.val v S') := by
      intro z hz
      unfold failedA at hz ⊢
      cases ok <;> cases z <;> first | (cases hz; done) | (cases hz; rfl)
    generalize i.zero = z at hi ⊢
    generalize i.desc = d at hi ⊢
    have fz := fail z
    clear fail
    cases d <;> first | (cases hi; done) | skip
    all_goals
      cases a <;> first | (cases hi; done) | exact fz hi | skip
      rename_i u a
      simp only at hi ⊢
      cases hb : Nat.beq u tt with
      | true => rw [hb] at hi; cases hi; rfl
      | false => rw [hb] at hi; exact fz hi
  case extract x i =>
    have h' : opExtract E t S x i = _ := h
    show opExtract E t S' x i = _
    unfold opExtract at h' ⊢
    refine bind_any h' fun a ha => ?_
    cases a <;> first | (cases ha; done) | exact valR_any ha
  case call c =>
    exfalso
    obtain ⟨cl, ar, at'⟩ := c
    cases cl <;> simp only [opKind] at hk <;> first | (cases hk; done) | skip
    split at hk <;> cases hk

end Go.Ev

/- A verified evaluator. Part S39: what is made in a region that draws its order, and how it comes into the heap. -/
namespace Go.Ev

section
variable {P : Program} {E : Env} {ρ : Rho} {S : St} {w : World} {t : T AV} {nt : Nat} {a : Act} (C : Ctx P E ρ S w t nt a)
include C

theorem make_cells {o : Oper} {m : Mk} (h : evMake E t o.op = .ok m) (hm : m.mv ≠ .map) : ∃ (c : Array Value) (x : Value), VRs ρ m.cells c.toList ∧
    (execOp a.eval o).run P w = .ok (.value x) { w with heap := w.heap.push (.cells c m.elem) } ∧ ∀ (ρ' : Rho) (b N : Nat), ρ'.loc b = some ⟨w.heap.size, 0, N⟩ → VR ρ' (m.mv.at b) x := by
  have hptr : ∀ (ρ' : Rho) (b N : Nat), ρ'.loc b = some ⟨w.heap.size, 0, N⟩ → VR ρ' (MV.at b .ptr) (.pointer (some ⟨w.heap.size, 0, none⟩)) := fun ρ' b N e => by
    have := VR.ptr (ρ := ρ') (o := 0) e
    simpa [MV.at] using this
  cases ho : o.op <;> rw [ho] at h <;> first | (cases h; done) | skip
  case makeMap tt r =>
    cases r with
    | none => cases h; exact absurd rfl hm
    | some y => cases h
  case alloc tt =>
    obtain ⟨i, h1, h2⟩ := R.bind_ok (show (tiOf E tt).bind _ = .ok m from h)
    obtain ⟨z, h3, h4⟩ := R.bind_ok h2
    cases h4
    obtain ⟨v, z1, z2, z3⟩ := (tiOf_ok C.env h1).run_zero (R.of_ok h3) w
    refine ⟨v.cells, .pointer (some ⟨w.heap.size, 0, none⟩), (z3 ρ).cells, ?_, hptr⟩
    unfold execOp
    rw [ho]
    simp only [Instr.alloc, Sem.run_bind, z1, Result.andThen_ok]
    rfl
  case box tt x =>
    obtain ⟨v, h1, h2⟩ := R.bind_ok (show (evO E t x).bind _ = .ok m from h)
    cases h2
    refine ⟨(a.eval x).cells, .pointer (some ⟨w.heap.size, 0, none⟩), (C.o h1).cells, ?_, hptr⟩
    unfold execOp
    rw [ho]
    rfl
  case buildSlice tt len parts =>
    obtain ⟨ps, h1, h2⟩ := R.bind_ok (show (evParts E t parts.toList).bind _ = .ok m from h)
    obtain ⟨r, h3, h4⟩ := R.bind_ok h2
    cases h4
    have hps := C.parts h1
    unfold aBuildCells at h3
    obtain ⟨⟨elem, ei⟩, h4, h5⟩ := R.bind_ok h3
    obtain ⟨u1, u2⟩ := elemT_ok C.env h4
    obtain ⟨z, h6, h7⟩ := R.bind_ok h5
    obtain ⟨_, h8, h9⟩ := R.bind_ok h7
    obtain ⟨l, h10, h11⟩ := R.bind_ok h9
    cases h11
    obtain ⟨zv, z1, z2, z3⟩ := zero_all u2 (R.of_ok h6)
    have hguard := Nat.le_of_ble_eq_true (R.guard_ok h8)
    have hpl : (parts.map fun (i, x) => (i, a.eval x)).toList = parts.toList.map fun p => (p.1, a.eval p.2) := by simp
    have hzs : zv.cells.size = ei.size := by
      have := (z3 ρ).cells.length; rw [z2] at this; simpa using this.symm
    obtain ⟨out, r1, r2⟩ := fill_ok (pc := fun i => some (i * ei.size, ei.size)) (fun i r hr => by cases hr; rfl) h10 hps (rep_zero (z3 ρ).cells len)
    have hu : (underlying tt).run P w = .ok (.slice elem) w := by simp [underlying, u1]
    refine ⟨out, .slice (some ⟨w.heap.size, 0, none⟩) len len, r2, ?_, fun ρ' b N e => .slice e ⟨Nat.le_refl _, .inr rfl, rfl⟩⟩
    unfold execOp
    rw [ho]
    have hg : ¬ (len * ei.size > 2 ^ 24) := by
      have : (2 : Nat) ^ 24 = 16777216 := by decide
      simp only at hguard
      omega
    simp only [Instr.buildSlice, Sem.run_bind, hu, Result.andThen_ok, u2.run_size w, hg, if_false, Sem.run_ite, Sem.run_pure]
    by_cases h0 : len * ei.size = 0
    · rw [if_pos h0]
      have hz0 : (Array.range (len * ei.size)).map ((#[] : Array Value)[· % (#[] : Array Value).size]!) = Builtin.zeroCells zv.cells len := by
        have : (Builtin.zeroCells zv.cells len).size = 0 := by rw [zeroCells_size, hzs]; exact h0
        rw [h0]
        rw [Array.eq_empty_of_size_eq_zero this]; simp
      simp only [hz0, hpl, r1]
      rfl
    · rw [if_neg h0]
      simp only [z1, Result.andThen_ok, hpl]
      have : (Array.range (len * ei.size)).map (zv.cells[· % zv.cells.size]!) = Builtin.zeroCells zv.cells len := by rw [← hzs]; rfl
      rw [this, r1]
      rfl
  case makeSlice tt x y =>
    obtain ⟨lv, h1, h2⟩ := R.bind_ok (show (evO E t x).bind _ = .ok m from h)
    obtain ⟨cv, h3, h5⟩ := R.bind_ok h2
    have hx := C.o h1
    have hy := C.o h3
    unfold aMakeCells at h5
    obtain ⟨⟨elem, ei⟩, h6, h7⟩ := R.bind_ok h5
    obtain ⟨u1, u2⟩ := elemT_ok C.env h6
    obtain ⟨l, h8, h9⟩ := R.bind_ok h7
    obtain ⟨c, h10, h11⟩ := R.bind_ok h9
    obtain ⟨z, h12, h13⟩ := R.bind_ok h11
    obtain ⟨_, h14, h15⟩ := R.bind_ok h13
    cases h15
    generalize hcx : a.eval x = cx at hx
    generalize hcy : a.eval y = cy at hy
    obtain ⟨k, rfl⟩ := asN_ok h8 hx
    obtain ⟨k', rfl⟩ := asN_ok h10 hy
    obtain ⟨zv, z1, z2, z3⟩ := zero_all u2 (R.of_ok h12)
    have hg := R.guard_ok h14
    simp only [Bool.and_eq_true] at hg
    have hlc := Nat.le_of_ble_eq_true hg.1.1
    have hcb := Nat.le_of_ble_eq_true hg.1.2
    have hc := Nat.le_of_ble_eq_true hg.2
    have hzs : zv.cells.size = ei.size := by
      have := (z3 ρ).cells.length; rw [z2] at this; simpa using this.symm
    have hu : (underlying tt).run P w = .ok (.slice elem) w := by simp [underlying, u1]
    obtain ⟨inf, hi, _, _, hbytes⟩ := u2.run_info w
    refine ⟨Builtin.zeroCells zv.cells c, .slice (some ⟨w.heap.size, 0, none⟩) l c, rep_zero (z3 ρ).cells c, ?_, fun ρ' b N e => .slice e ⟨hlc, .inr rfl, rfl⟩⟩
    unfold execOp
    rw [ho]
    have e1 : (asInt (.int k (l : Int))).run P w = .ok (l : Int) w := rfl
    have e2 : (asInt (.int k' (c : Int))).run P w = .ok (c : Int) w := rfl
    have w1 := wrap_small (show l ≤ 1000000 by omega)
    have w2 := wrap_small hc
    have t1 : ((decide ((c : Int) < 0)) || decide ((inf.bytes : Int) * (c : Int) > 2 ^ 48)) = false := by
      have : (inf.bytes : Int) * (c : Int) = ((c * ei.bytes : Nat) : Int) := by rw [hbytes, Nat.mul_comm]; simp
      simp only [Bool.or_eq_false_iff, decide_eq_false_iff_not]
      omega
    have t2 : ¬ ((l : Int) < 0) := by omega
    have t3 : ¬ ((l : Int) > (c : Int)) := by omega
    simp only [hcx, hcy, Instr.makeSlice, Sem.run_bind, hu, Result.andThen_ok, e1, e2, hi, w1, w2, t1, t2, t3, decide_false, Bool.or_self, Bool.false_eq_true, if_false, run_askRoom, u2.run_size w, Int.toNat_natCast, Sem.run_ite, Sem.run_pure]
    by_cases h0 : c * ei.size = 0
    · rw [if_pos h0]
      have hz0 : (Array.range (c * ei.size)).map ((#[] : Array Value)[· % (#[] : Array Value).size]!) = Builtin.zeroCells zv.cells c := by
        have : (Builtin.zeroCells zv.cells c).size = 0 := by rw [zeroCells_size, hzs]; exact h0
        rw [h0]
        rw [Array.eq_empty_of_size_eq_zero this]; simp
      simp only [hz0]
      rfl
    · rw [if_neg h0]
      simp only [z1, Result.andThen_ok]
      have : (Array.range (c * ei.size)).map (zv.cells[· % zv.cells.size]!) = Builtin.zeroCells zv.cells c := by rw [← hzs]; rfl
      rw [this]
      rfl

end

theorem OR.rw {ρ : Rho} {h : Array Obj} {cs : T AV} {size : Nat} {elem : TypeId} {g fr : Nat} {plain : Bool} {L : Loc} (x : OR ρ h (.cells cs size elem false g fr plain) L) :
    ∃ c f, h[L.blk]? = some (.cells c elem f) ∧ c.size = L.N ∧ L.sh + size ≤ L.N ∧ (∀ i v, cs.get i = some v → i < size ∧ ∃ y, c[L.sh + i]? = some y ∧ VR ρ v y) ∧ frozenOk L fr plain L.N f := by
  generalize ho : AObj.cells cs size elem false g fr plain = o at x
  cases x with
  | cells at_ hN hsz vals frz => cases ho; exact ⟨_, _, at_, hN, hsz, vals, frz⟩
  | _ => cases ho

/- A block that is made, and is not in the abstract heap yet. -/
def PockOK (ρ : Rho) (h : Array Obj) (L : Loc) (m : Mk) : Prop := OR ρ h (m.obj 0) L

theorem Mk.obj_map {m : Mk} (h : m.mv = .map) (g : Nat) : m.obj g = .map [] 0 := by unfold Mk.obj; rw [h]

theorem Mk.obj_cells {m : Mk} (h : m.mv ≠ .map) (g : Nat) : m.obj g = .cells (T.ofList .nil 0 m.cells) m.cells.length m.elem false g 0 true := by
  unfold Mk.obj
  split
  · rename_i e; exact absurd e h
  · rfl

theorem MV.map_or (v : MV) : v = .map ∨ v ≠ .map := by cases v <;> simp

theorem PockOK.or {ρ : Rho} {h : Array Obj} {L : Loc} {m : Mk} (x : PockOK ρ h L m) (g : Nat) : OR ρ h (m.obj g) L := by
  unfold PockOK at x
  rcases MV.map_or m.mv with e | e
  · rw [Mk.obj_map e] at x ⊢; exact x
  · rw [Mk.obj_cells e] at x ⊢
    obtain ⟨c, f, at_, hN, hsz, vals, frz⟩ := x.rw
    exact .cells at_ hN hsz vals frz

theorem PockOK.of_or {ρ : Rho} {h : Array Obj} {L : Loc} {m : Mk} {g : Nat} (x : OR ρ h (m.obj g) L) : PockOK ρ h L m := by
  unfold PockOK
  rcases MV.map_or m.mv with e | e
  · rw [Mk.obj_map e] at x ⊢; exact x
  · rw [Mk.obj_cells e] at x ⊢
    obtain ⟨c, f, at_, hN, hsz, vals, frz⟩ := x.rw
    exact .cells at_ hN hsz vals frz

theorem PockOK.mono {ρ ρ' : Rho} {h h' : Array Obj} {L : Loc} {m : Mk} (x : PockOK ρ h L m) (hle : ρ.le ρ') (hk : h'[L.blk]? = h[L.blk]?) : PockOK ρ' h' L m := by
  unfold PockOK at x ⊢
  rcases MV.map_or m.mv with e | e
  · rw [Mk.obj_map e] at x ⊢
    cases x with
    | map at_ mm =>
      obtain ⟨l, p, q⟩ := mm.ents
      exact .map (hk.trans at_) ⟨⟨l, p, q.mono hle⟩, mm.old, mm.nodup⟩
  · rw [Mk.obj_cells e] at x ⊢
    obtain ⟨c, f, at_, hN, hsz, vals, frz⟩ := x.rw
    exact .cells (hk.trans at_) hN hsz (fun i v e => let ⟨a, y, p, q⟩ := vals i v e; ⟨a, y, p, q.mono hle⟩) frz

theorem PockOK.new {ρ ρ' : Rho} {h : Array Obj} {m : Mk} {c : Array Value} (hm : m.mv ≠ .map) (hv : VRs ρ m.cells c.toList) (hle : ρ.le ρ') : PockOK ρ' (h.push (.cells c m.elem (0, 0))) ⟨h.size, 0, c.size⟩ m := by
  have hlen : m.cells.length = c.size := by have := hv.length; simpa using this
  unfold PockOK
  rw [Mk.obj_cells hm]
  refine .cells (c := c) (f := (0, 0)) (by rw [Array.getElem?_push, if_pos rfl]) rfl (by simp; omega) ?_ frozenOk_none
  intro i v hi
  rw [T.get_ofList, T.get_nil] at hi
  by_cases q : 0 ≤ i ∧ i < 0 + m.cells.length
  · rw [if_pos q] at hi
    obtain ⟨x, hx, hv'⟩ := hv.get (i := i) (by simpa using hi)
    refine ⟨by omega, x, ?_, hv'.mono hle⟩
    simp only [Nat.zero_add]
    rw [← Array.getElem?_toList]; exact hx
  · rw [if_neg q] at hi; cases hi

theorem PockOK.newMap {ρ : Rho} {h : Array Obj} {m : Mk} (hm : m.mv = .map) : PockOK ρ (h.push (.map #[] 0)) ⟨h.size, 0, 0⟩ m := by
  unfold PockOK
  rw [Mk.obj_map hm]
  refine .map (cs := #[]) ?_ ⟨⟨[], .nil, .nil⟩, by simp, by simp⟩
  rw [Array.getElem?_push, if_pos rfl]

/- What is made: cells, or a map. -/
theorem make_ok {P : Program} {E : Env} {ρ : Rho} {S : St} {w : World} {t : T AV} {nt : Nat} {a : Act} (C : Ctx P E ρ S w t nt a) {o : Oper} {m : Mk} (h : evMake E t o.op = .ok m) : ∃ (Y : Obj) (n : Nat) (x : Value),
    (execOp a.eval o).run P w = .ok (.value x) { w with heap := w.heap.push Y } ∧ (∀ ρ', ρ.le ρ' → PockOK ρ' (w.heap.push Y) ⟨w.heap.size, 0, n⟩ m) ∧
    ∀ (ρ' : Rho) (b N : Nat), ρ'.loc b = some ⟨w.heap.size, 0, N⟩ → VR ρ' (m.mv.at b) x := by
  rcases MV.map_or m.mv with e | e
  · cases ho : o.op <;> rw [ho] at h <;> first | (cases h; done) | skip
    case makeMap tt r =>
      cases r with
      | some y => cases h
      | none =>
        cases h
        refine ⟨.map #[] 0, 0, .map (some w.heap.size), ?_, fun ρ' _ => PockOK.newMap rfl, fun ρ' b N e => VR.map (ρ := ρ') (r := b) e⟩
        unfold execOp
        rw [ho]
        rfl
    case alloc tt =>
      obtain ⟨i, h1, h2⟩ := R.bind_ok (show (tiOf E tt).bind _ = .ok m from h)
      obtain ⟨z, h3, h4⟩ := R.bind_ok h2
      cases h4; cases e
    case box tt x =>
      obtain ⟨v, h1, h2⟩ := R.bind_ok (show (evO E t x).bind _ = .ok m from h)
      cases h2; cases e
    case buildSlice tt len parts =>
      obtain ⟨ps, h1, h2⟩ := R.bind_ok (show (evParts E t parts.toList).bind _ = .ok m from h)
      obtain ⟨r, h3, h4⟩ := R.bind_ok h2
      cases h4; cases e
    case makeSlice tt x y =>
      obtain ⟨lv, h1, h2⟩ := R.bind_ok (show (evO E t x).bind _ = .ok m from h)
      obtain ⟨cv, h3, h5⟩ := R.bind_ok h2
      unfold aMakeCells at h5
      obtain ⟨⟨elem, ei⟩, h6, h7⟩ := R.bind_ok h5
      obtain ⟨l, h8, h9⟩ := R.bind_ok h7
      obtain ⟨c, h10, h11⟩ := R.bind_ok h9
      obtain ⟨z, h12, h13⟩ := R.bind_ok h11
      obtain ⟨_, h14, h15⟩ := R.bind_ok h13
      cases h15; cases e
  · obtain ⟨c, x, h1, h2, h3⟩ := make_cells C h e
    exact ⟨_, _, x, h2, fun ρ' hle => PockOK.new e h1 hle, h3⟩

theorem Mk.group {m : Mk} {n g : Nat} (h : (m.obj n).group = some g) : some n = some g := by
  unfold Mk.obj at h
  split at h
  · cases h
  · exact h

def Away (ρ : Rho) (S : St) (L : Loc) : Prop := ∀ b o L', S.heap.get b = some o → ρ.loc b = some L' → L'.blk ≠ L.blk

theorem St.addAt_eq (S : St) (b : Nat) (m : Mk) : S.addAt b m = ⟨S.heap.set b (m.obj S.next), S.next + 1, S.grp, b :: S.log⟩ := by
  obtain ⟨h, n, g, l⟩ := S
  show force n (fun n => (⟨h.set b (m.obj n), Nat.succ n, g, b :: l⟩ : St)) = _
  rw [force_eq]

theorem St.addAt_get (S : St) (b : Nat) (m : Mk) (k : Nat) : (S.addAt b m).heap.get k = if k = b then some (m.obj S.next) else S.heap.get k := by
  rw [St.addAt_eq]
  by_cases e : k = b
  · subst e; exact (T.get_set _ _ _).trans (if_pos rfl).symm
  · exact (T.get_set_ne _ _ _ _ e).trans (if_neg e).symm

theorem HR.addAt {ρ : Rho} {S : St} {h : Array Obj} (H : HR ρ S h) {b : Nat} {L : Loc} {m : Mk} (hL : ρ.loc b = some L) (hp : PockOK ρ h L m) (ha : Away ρ S L) : HR ρ (S.addAt b m) h := by
  have hn : (S.addAt b m).next = S.next + 1 := by rw [St.addAt_eq]
  have hg : (S.addAt b m).grp = S.grp := by rw [St.addAt_eq]
  refine ⟨?_, ?_, ?_, H.bound, ?_, ?_⟩
  · intro k o e
    rw [St.addAt_get] at e
    by_cases c : k = b
    · rw [if_pos c] at e; cases e; subst c; exact ⟨L, hL, hp.or _⟩
    · rw [if_neg c] at e; exact H.objs k o e
  · intro k k' o o' M M' e e' l l' hb
    rw [St.addAt_get] at e e'
    by_cases c : k = b <;> by_cases c' : k' = b
    · exact .inl (c.trans c'.symm)
    · rw [if_neg c'] at e'
      subst c
      rw [hL] at l; cases l
      exact absurd hb.symm (ha k' o' M' e' l')
    · rw [if_neg c] at e
      subst c'
      rw [hL] at l'; cases l'
      exact absurd hb (ha k o M e l)
    · rw [if_neg c] at e; rw [if_neg c'] at e'
      exact H.inj k k' o o' M M' e e' l l' hb
  · intro k hk; rw [hn] at hk; exact H.next k (by omega)
  · intro k k' o o' g hne e e' g1 g2
    rw [hg]
    rw [St.addAt_get] at e e'
    by_cases c : k = b <;> by_cases c' : k' = b
    · exact absurd (c.trans c'.symm) hne
    · rw [if_pos c] at e; rw [if_neg c'] at e'
      cases e
      have g1' : some S.next = some g := Mk.group g1
      cases g1'
      have := H.gnext k' o' _ e' g2
      omega
    · rw [if_neg c] at e; rw [if_pos c'] at e'
      cases e'
      have g2' : some S.next = some g := Mk.group g2
      cases g2'
      have := H.gnext k o _ e g1
      omega
    · rw [if_neg c] at e; rw [if_neg c'] at e'
      exact H.grp k k' o o' g hne e e' g1 g2
  · intro k o g e g1
    rw [hn]
    rw [St.addAt_get] at e
    by_cases c : k = b
    · rw [if_pos c] at e; cases e
      have g1' : some S.next = some g := Mk.group g1
      cases g1'; omega
    · rw [if_neg c] at e; have := H.gnext k o g e g1; omega

def wantB (want got j : Nat) : Bool := bit want j && !(bit got j)

/- Several come. -/
theorem adopt_ok {ρ : Rho} {h : Array Obj} {base want got : Nat} : ∀ {ps : List (Nat × Mk)} {S : St}, HR ρ S h → (ps.map (·.1)).Nodup →
    (∀ p ∈ ps, wantB want got p.1 = true → ∃ L, ρ.loc (base + p.1) = some L ∧ PockOK ρ h L p.2 ∧ Away ρ S L) →
    (∀ p ∈ ps, ∀ q ∈ ps, p.1 ≠ q.1 → wantB want got p.1 = true → wantB want got q.1 = true → ∀ L L', ρ.loc (base + p.1) = some L → ρ.loc (base + q.1) = some L' → L.blk ≠ L'.blk) →
    HR ρ (adopt base want got ps S) h ∧ (∀ b o, (adopt base want got ps S).heap.get b = some o → S.heap.get b = some o ∨ ∃ p ∈ ps, wantB want got p.1 = true ∧ b = base + p.1) := by
  intro ps
  induction ps with
  | nil => intro S H _ _ _; exact ⟨H, fun b o e => .inl e⟩
  | cons p ps ih =>
    intro S H hn hp hd
    unfold adopt
    have hn' : (ps.map (·.1)).Nodup := (List.nodup_cons.1 hn).2
    have hpn : ∀ q ∈ ps, p.1 ≠ q.1 := fun q hq e => (List.nodup_cons.1 hn).1 (by show p.1 ∈ ps.map (·.1); rw [e]; exact List.mem_map_of_mem hq)
    split
    · rename_i hw
      have hw' : wantB want got p.1 = true := hw
      obtain ⟨L, hL, hpo, haw⟩ := hp p List.mem_cons_self hw'
      have H' := H.addAt hL hpo haw
      obtain ⟨q1, q2⟩ := ih H' hn' (fun q hq hwq => by
        obtain ⟨L2, e1, e2, e3⟩ := hp q (List.mem_cons_of_mem _ hq) hwq
        refine ⟨L2, e1, e2, ?_⟩
        intro b o M e l
        rw [St.addAt_get] at e
        by_cases c : b = base + p.1
        · subst c
          rw [hL] at l; cases l
          exact hd p List.mem_cons_self q (List.mem_cons_of_mem _ hq) (hpn q hq) hw' hwq L L2 hL e1
        · rw [if_neg c] at e; exact e3 b o M e l)
        (fun x hx y hy => hd x (List.mem_cons_of_mem _ hx) y (List.mem_cons_of_mem _ hy))
      refine ⟨q1, fun b o e => ?_⟩
      rcases q2 b o e with e1 | ⟨x, hx, h1, h2⟩
      · rw [St.addAt_get] at e1
        by_cases c : b = base + p.1
        · exact .inr ⟨p, List.mem_cons_self, hw', c⟩
        · rw [if_neg c] at e1; exact .inl e1
      · exact .inr ⟨x, List.mem_cons_of_mem _ hx, h1, h2⟩
    · obtain ⟨q1, q2⟩ := ih H hn' (fun q hq => hp q (List.mem_cons_of_mem _ hq)) (fun x hx y hy => hd x (List.mem_cons_of_mem _ hx) y (List.mem_cons_of_mem _ hy))
      refine ⟨q1, fun b o e => ?_⟩
      rcases q2 b o e with e1 | ⟨x, hx, h1, h2⟩
      · exact .inl e1
      · exact .inr ⟨x, List.mem_cons_of_mem _ hx, h1, h2⟩

/- What has come is there. -/
theorem adopt_at {base want got : Nat} : ∀ {ps : List (Nat × Mk)} {S : St}, (ps.map (·.1)).Nodup → ∀ p ∈ ps, wantB want got p.1 = true → ∃ g, (adopt base want got ps S).heap.get (base + p.1) = some (p.2.obj g) := by
  intro ps
  induction ps with
  | nil => intro S _ p hp; cases hp
  | cons x ps ih =>
    intro S hn p hp hw
    have hn' : (ps.map (·.1)).Nodup := (List.nodup_cons.1 hn).2
    have stay : ∀ {S : St} {b : Nat} {o : AObj}, (∀ q ∈ ps, b ≠ base + q.1) → S.heap.get b = some o → (adopt base want got ps S).heap.get b = some o := by
      clear ih hn hn' hp
      induction ps with
      | nil => intro S b o _ e; exact e
      | cons y ps ih =>
        intro S b o hb e
        unfold adopt
        split
        · exact ih (fun q hq => hb q (List.mem_cons_of_mem _ hq)) (by rw [St.addAt_get, if_neg (hb y List.mem_cons_self)]; exact e)
        · exact ih (fun q hq => hb q (List.mem_cons_of_mem _ hq)) e
    unfold adopt
    rcases List.mem_cons.1 hp with e | e
    · subst e
      have hw' : (bit want p.1 && !(bit got p.1)) = true := hw
      rw [hw']
      refine ⟨S.next, stay (fun q hq c => ?_) (by rw [St.addAt_get, if_pos rfl])⟩
      have hpq : p.1 = q.1 := by omega
      exact (List.nodup_cons.1 hn).1 (by show p.1 ∈ ps.map (·.1); rw [hpq]; exact List.mem_map_of_mem hq)
    · split
      · exact ih hn' p e hw
      · exact ih hn' p e hw

theorem adopt_next {base want got : Nat} : ∀ (ps : List (Nat × Mk)) (S : St), S.next ≤ (adopt base want got ps S).next ∧
    ∃ l, (adopt base want got ps S).log = l ++ S.log ∧ ∀ b, b ∉ l → (adopt base want got ps S).heap.get b = S.heap.get b := by
  intro ps
  induction ps with
  | nil => intro S; exact ⟨Nat.le_refl _, [], rfl, fun _ _ => rfl⟩
  | cons p ps ih =>
    intro S
    unfold adopt
    split
    · obtain ⟨h1, l, h2, h3⟩ := ih (S.addAt (base + p.1) p.2)
      have hn : (S.addAt (base + p.1) p.2).next = S.next + 1 := by rw [St.addAt_eq]
      have hl : (S.addAt (base + p.1) p.2).log = (base + p.1) :: S.log := by rw [St.addAt_eq]
      refine ⟨by omega, l ++ [base + p.1], by rw [h2, hl]; simp, fun b hb => ?_⟩
      simp only [List.mem_append, List.mem_singleton, not_or] at hb
      rw [h3 b hb.1, St.addAt_get, if_neg hb.2]
    · exact ih S

end Go.Ev

/- A verified evaluator. Part S40: a region in the text's order, step by step. -/
namespace Go.Ev

/- What stands before an operation. -/
theorem fold_bit {acc : List Nat} {j : Nat} : ∀ (l : List Edge) (s : Nat), bit (l.foldl (fun s e => if Region.binds .any e then Nat.lor s (Nat.lor (Nat.pow 2 e.on) (acc.getD e.on 0)) else s) s) j = true →
    bit s j = true ∨ ∃ e ∈ l, Region.binds .any e = true ∧ (j = e.on ∨ bit (acc.getD e.on 0) j = true) := by
  intro l
  induction l with
  | nil => intro s h; exact .inl h
  | cons e l ih =>
    intro s h
    rw [List.foldl_cons] at h
    rcases ih _ h with h1 | ⟨e', he, h1, h2⟩
    · by_cases hb : Region.binds .any e = true
      · rw [if_pos hb] at h1
        have h1' : (s ||| (2 ^ e.on ||| acc.getD e.on 0)).testBit j = true := h1
        rw [Nat.testBit_or, Nat.testBit_or, Bool.or_eq_true, Bool.or_eq_true] at h1'
        rcases h1' with h1' | h1' | h1'
        · exact .inl h1'
        · rw [Nat.testBit_two_pow] at h1'
          exact .inr ⟨e, List.mem_cons_self, hb, .inl (by simpa using (of_decide_eq_true h1').symm)⟩
        · exact .inr ⟨e, List.mem_cons_self, hb, .inr h1'⟩
      · rw [if_neg hb] at h1; exact .inl h1
    · exact .inr ⟨e', List.mem_cons_of_mem _ he, h1, h2⟩

theorem maskOf_bit {acc : List Nat} {o : Oper} {j : Nat} (h : bit (maskOf acc o) j = true) : ∃ e ∈ o.after.toList, Region.binds .any e = true ∧ (j = e.on ∨ bit (acc.getD e.on 0) j = true) := by
  rcases fold_bit _ _ h with h1 | h1
  · have : (0 : Nat).testBit j = true := h1
    simp at this
  · exact h1

theorem masks_get : ∀ (os : List Oper) (acc : List Nat), (∀ k, k < acc.length → (masks os acc).getD k 0 = acc.getD k 0) ∧
    ∀ j o, os[j]? = some o → ∃ acc' : List Nat, acc'.length = acc.length + j ∧ (∀ k, k < acc'.length → (masks os acc).getD k 0 = acc'.getD k 0) ∧ (masks os acc).getD (acc.length + j) 0 = maskOf acc' o := by
  intro os
  induction os with
  | nil => intro acc; exact ⟨fun _ _ => rfl, fun j o h => by simp at h⟩
  | cons x os ih =>
    intro acc
    obtain ⟨h1, h2⟩ := ih (acc ++ [maskOf acc x])
    have hlen : (acc ++ [maskOf acc x]).length = acc.length + 1 := by simp
    have step : ∀ k, k < acc.length → (acc ++ [maskOf acc x]).getD k 0 = acc.getD k 0 := by
      intro k hk
      simp only [List.getD_eq_getElem?_getD]
      rw [List.getElem?_append_left hk]
    refine ⟨fun k hk => ?_, fun j o h => ?_⟩
    · show (masks os (acc ++ [maskOf acc x])).getD k 0 = _
      rw [h1 k (by omega), step k hk]
    · cases j with
      | zero =>
        simp at h
        subst h
        refine ⟨acc, rfl, fun k hk => ?_, ?_⟩
        · show (masks os (acc ++ [maskOf acc x])).getD k 0 = _
          rw [h1 k (by omega), step k hk]
        · show (masks os (acc ++ [maskOf acc x])).getD (acc.length + 0) 0 = _
          rw [h1 _ (by omega)]
          simp [List.getD_eq_getElem?_getD]
      | succ j =>
        obtain ⟨acc', e1, e2, e3⟩ := h2 j o (by simpa using h)
        refine ⟨acc', by omega, e2, ?_⟩
        show (masks os (acc ++ [maskOf acc x])).getD (acc.length + (j + 1)) 0 = _
        rw [← e3]
        congr 1
        omega

theorem masks_bit {os : List Oper} {i : Nat} {o : Oper} (ho : os[i]? = some o) {j : Nat} (h : bit ((masks os []).getD i 0) j = true) :
    ∃ e ∈ o.after.toList, Region.binds .any e = true ∧ (j = e.on ∨ bit ((masks os []).getD e.on 0) j = true) := by
  obtain ⟨_, h2⟩ := masks_get os []
  obtain ⟨acc', e1, e2, e3⟩ := h2 i o ho
  simp only [List.length_nil, Nat.zero_add] at e1 e3
  rw [e3] at h
  obtain ⟨e, he, hb, hc⟩ := maskOf_bit h
  refine ⟨e, he, hb, ?_⟩
  rcases hc with hc | hc
  · exact .inl hc
  · refine .inr ?_
    by_cases hk : e.on < acc'.length
    · rw [e2 _ hk]; exact hc
    · have : acc'.getD e.on 0 = 0 := by simp only [List.getD_eq_getElem?_getD]; rw [List.getElem?_eq_none (by omega)]; rfl
      rw [this] at hc
      have hc' : (0 : Nat).testBit j = true := hc
      simp at hc'

/- What is asked of the text. -/
structure Tidy (ops : List Oper) (ms : List Nat) : Prop where
  back : ∀ (i : Nat) (o : Oper), ops[i]? = some o → ∀ e ∈ o.after.toList, Region.binds .any e = true → e.on < i
  own : ∀ (i j : Nat) (o o' : Oper) (d : Nat), ops[i]? = some o → ops[j]? = some o' → o.dst = some d → o'.dst = some d → i = j
  reads : ∀ (i : Nat) (o : Oper) (t : Nat), ops[i]? = some o → t ∈ opTmps ops o → ∀ (j : Nat) (o' : Oper), ops[j]? = some o' → o'.dst = some t → i = j ∨ bit (ms.getD i 0) j = true ∨ bit (ms.getD j 0) i = true

theorem tidyAll_at {ops : List Oper} {ms : List Nat} {dt : T Nat} : ∀ {os : List Oper} {i : Nat}, tidyAll ops ms dt i os = true → ∀ j o, os[j]? = some o → tidyOp ops ms dt (i + j) o = true := by
  intro os
  induction os with
  | nil => intro i _ j o h; simp at h
  | cons x os ih =>
    intro i h j o ho
    unfold tidyAll at h
    split at h
    · rename_i hx
      cases j with
      | zero => simp at ho; subst ho; exact hx
      | succ j => have := ih h j o (by simpa using ho); rw [show i + (j + 1) = i + 1 + j by omega]; exact this
    · cases h

theorem tidy_ok {ops : List Oper} {ms : List Nat} (h : tidy ops ms = true) : Tidy ops ms := by
  unfold tidy at h
  have key : ∀ i o, ops[i]? = some o → tidyOp ops ms (dstTrie 0 ops .nil) i o = true := by
    intro i o ho
    have := tidyAll_at h i o ho
    rwa [Nat.zero_add] at this
  generalize dstTrie 0 ops .nil = dt at key
  have place : ∀ i o d, ops[i]? = some o → o.dst = some d → dt.get d = some i := by
    intro i o d ho hd
    have := key i o ho
    simp only [tidyOp, Bool.and_eq_true, hd] at this
    have h1 := this.1.1
    cases hq : dt.get d with
    | none => rw [hq] at h1; cases h1
    | some j => rw [hq] at h1; rw [Nat.eq_of_beq_eq_true h1]
  refine ⟨?_, ?_, ?_⟩
  · intro i o ho e he hb
    have := key i o ho
    simp only [tidyOp, Bool.and_eq_true, List.all_eq_true] at this
    have h2 := this.1.2 e he
    rw [hb] at h2
    simpa [Nat.blt_eq] using h2
  · intro i j o o' d hi hj hd hd'
    have h1 := place i o d hi hd
    have h2 := place j o' d hj hd'
    rw [h1] at h2; injection h2
  · intro i o t ho ht j o' hj hd
    have := key i o ho
    simp only [tidyOp, Bool.and_eq_true, List.all_eq_true] at this
    have h3 := this.2 t ht
    unfold tidyRead at h3
    rw [place j o' t hj hd] at h3
    simp only [Bool.or_eq_true] at h3
    rcases h3 with (h3 | h3) | h3
    · exact .inl (Nat.eq_of_beq_eq_true h3)
    · exact .inr (.inl h3)
    · exact .inr (.inr h3)

/- One step. -/
inductive Stp (E : Env) (nt : Nat) (N : Nest) (base res : Nat) (all : List Oper) (i mask : Nat) (o : Oper) (D : Draw) : Draw → Prop
  | skip (hw : wantedA all D.tmps o.guard = false) : Stp E nt N base res all i mask o D ⟨putD nt D.tmps o.dst undefA, D.ds, D.S, D.got, D.last, D.pocket, D.quiets, D.hist⟩
  | pure {v : AV} {S1 : St} (hw : wantedA all D.tmps o.guard = true) (hk : opKind o.op = .pure) (h : evOp E D.tmps D.S o.op = .ok (.val v S1)) :
      Stp E nt N base res all i mask o D ⟨putD nt D.tmps o.dst v, D.ds, D.S, D.got, D.last, D.pocket, D.quiets, D.hist⟩
  | quiet {v : AV} {S1 : St} (hw : wantedA all D.tmps o.guard = true) (hk : opKind o.op = .quiet) (h : evOp E D.tmps (adopt base mask D.got D.pocket D.S) o.op = .ok (.val v S1)) :
      Stp E nt N base res all i mask o D ⟨putD nt D.tmps o.dst v, D.ds, D.S, D.got, D.last, D.pocket, ⟨o, i, mask, D.tmps, v⟩ :: D.quiets, D.hist⟩
  | makes {m : Mk} (hw : wantedA all D.tmps o.guard = true) (hk : opKind o.op = .makes) (h : evMake E D.tmps o.op = .ok m) (hr : i < res) :
      Stp E nt N base res all i mask o D ⟨putD nt D.tmps o.dst (m.mv.at (base + i)), D.ds, D.S, D.got, D.last, (i, m) :: D.pocket, D.quiets, D.hist⟩
  | acts {nx : ANext} {D' : Draw} (hw : wantedA all D.tmps o.guard = true) (hl : afterLast D.last mask = true) (h : evOp E D.tmps (adopt base mask D.got D.pocket D.S) o.op = .ok nx)
      (ha : actNext N nt i mask o D (adopt base mask D.got D.pocket D.S) nx = .ok D') : Stp E nt N base res all i mask o D D'

theorem drawStep_stp {E : Env} {nt : Nat} {N : Nest} {base res : Nat} {all : List Oper} {i mask : Nat} {o : Oper} {D D' : Draw} (h : drawStep E nt N base res all i mask o D = .ok D') : Stp E nt N base res all i mask o D D' := by
  obtain ⟨t, ds, S, g, l, p, q, hh⟩ := D
  unfold drawStep at h
  split at h
  · rename_i hw; cases h; exact .skip hw
  · rename_i hw
    split at h
    · rename_i hk
      split at h
      · rename_i v S1 he; cases h; exact .pure hw hk he
      · cases h
    · rename_i hk
      split at h
      · rename_i v S1 he; cases h; exact .quiet hw hk he
      · cases h
    · rename_i hk
      split at h
      · rename_i m he hr; cases h; exact .makes hw hk he (by simpa [Nat.blt_eq] using hr)
      · cases h
    · rename_i hk
      split at h
      · cases h
      · rename_i hl
        obtain ⟨nx, h1, h2⟩ := R.bind_ok h
        exact .acts hw hl h1 h2

/- What an act leaves. -/
theorem actNext_ok {N : Nest} {nt i mask : Nat} {o : Oper} {D D' : Draw} {S0 : St} {nx : ANext} (h : actNext N nt i mask o D S0 nx = .ok D') :
    ∃ v ds S', D' = ⟨putD nt D.tmps o.dst v, ds, S', Nat.lor D.got mask, some i, D.pocket, D.quiets, ⟨i, D.got, D.S⟩ :: D.hist⟩ ∧
      ((nx = .val v S' ∧ ds = D.ds) ∨ (∃ f args u, nx = .enter f args ∧ N.call f args .normal .run S0 = .ok ⟨.ret v, u, S'⟩ ∧ ds = D.ds) ∨ (∃ d, nx = .defer d ∧ v = undefA ∧ ds = d :: D.ds ∧ S' = S0)) := by
  obtain ⟨t, dd, S, g, l, p, q, hh⟩ := D
  unfold actNext at h
  split at h
  · cases h; exact ⟨_, _, _, rfl, .inl ⟨rfl, rfl⟩⟩
  · split at h
    · rename_i f args v u S' hc; cases h; exact ⟨_, _, _, rfl, .inr (.inl ⟨_, _, _, rfl, hc, rfl⟩)⟩
    · cases h
    · cases h
  · cases h; exact ⟨_, _, _, rfl, .inr (.inr ⟨_, rfl, rfl, rfl, rfl⟩)⟩
  · cases h

/- The whole way. -/
theorem drawAll_trace {E : Env} {nt : Nat} {N : Nest} {base res : Nat} {all : List Oper} {ms : List Nat} : ∀ (os : List Oper) (i : Nat) (D D' : Draw), drawAll E nt N base res all ms i os D = .ok D' →
    ∃ Dn : Nat → Draw, Dn i = D ∧ Dn (i + os.length) = D' ∧ ∀ j o, os[j]? = some o → Stp E nt N base res all (i + j) (ms.getD (i + j) 0) o (Dn (i + j)) (Dn (i + j + 1)) := by
  intro os
  induction os with
  | nil => intro i D D' h; cases h; exact ⟨fun _ => D, rfl, rfl, fun j o e => by simp at e⟩
  | cons x os ih =>
    intro i D D' h
    unfold drawAll at h
    obtain ⟨D1, h1, h2⟩ := R.bind_ok h
    obtain ⟨Dn, e1, e2, e3⟩ := ih (i + 1) D1 D' h2
    refine ⟨fun k => if k ≤ i then D else Dn k, ?_, ?_, ?_⟩
    · simp
    · simp only [List.length_cons]
      rw [if_neg (by omega)]
      rw [show i + (os.length + 1) = i + 1 + os.length by omega]; exact e2
    · intro j o ho
      cases j with
      | zero =>
        simp at ho
        subst ho
        simp only [Nat.add_zero, Nat.le_refl, if_true]
        rw [if_neg (by omega), e1]
        exact drawStep_stp h1
      | succ j =>
        have := e3 j o (by simpa using ho)
        simp only
        rw [if_neg (by omega), if_neg (by omega), show i + (j + 1) = i + 1 + j by omega]
        exact this

/- A trace of a region, and what is known of it. -/
structure RTrace (E : Env) (nt : Nat) (N : Nest) (base res : Nat) (ops : Array Oper) (ms : List Nat) (Dn : Nat → Draw) : Prop where
  tidy : Tidy ops.toList ms
  bits : ∀ (i : Nat) (o : Oper) (j : Nat), ops[i]? = some o → bit (ms.getD i 0) j = true → ∃ e ∈ o.after.toList, Region.binds .any e = true ∧ (j = e.on ∨ bit (ms.getD e.on 0) j = true)
  steps : ∀ (i : Nat) (o : Oper), ops[i]? = some o → Stp E nt N base res ops.toList i (ms.getD i 0) o (Dn i) (Dn (i + 1))
  pock0 : (Dn 0).pocket = []
  last0 : (Dn 0).last = none
  hist0 : (Dn 0).hist = []
  quiet0 : (Dn 0).quiets = []

def IsAct (Dn : Nat → Draw) (i : Nat) : Prop := (Dn i).hist.length < (Dn (i + 1)).hist.length

section
variable {E : Env} {nt : Nat} {N : Nest} {base res : Nat} {ops : Array Oper} {ms : List Nat} {Dn : Nat → Draw} (Tc : RTrace E nt N base res ops ms Dn)
include Tc

theorem opAt {i : Nat} (h : i < ops.size) : ∃ o, ops[i]? = some o := by
  have _ := Tc
  exact ⟨ops[i], Array.getElem?_eq_getElem h⟩

theorem bit_lt {i j : Nat} (hi : i < ops.size) (h : bit (ms.getD i 0) j = true) : j < i := by
  induction i using Nat.strongRecOn with
  | _ i ih =>
    obtain ⟨o, ho⟩ := opAt Tc hi
    obtain ⟨e, he, hb, hc⟩ := Tc.bits i o j ho h
    have hlt := Tc.tidy.back i o (by rw [Array.getElem?_toList]; exact ho) e he hb
    rcases hc with hc | hc
    · omega
    · have := ih e.on hlt (by omega) hc; omega

theorem nonact {i : Nat} (hi : i < ops.size) (h : ¬ IsAct Dn i) : (Dn (i + 1)).S = (Dn i).S ∧ (Dn (i + 1)).ds = (Dn i).ds ∧ (Dn (i + 1)).got = (Dn i).got ∧ (Dn (i + 1)).last = (Dn i).last ∧ (Dn (i + 1)).hist = (Dn i).hist := by
  obtain ⟨o, ho⟩ := opAt Tc hi
  have hs := Tc.steps i o ho
  generalize hD : Dn (i + 1) = D' at hs h
  unfold IsAct at h
  rw [hD] at h
  cases hs with
  | skip => exact ⟨rfl, rfl, rfl, rfl, rfl⟩
  | pure => exact ⟨rfl, rfl, rfl, rfl, rfl⟩
  | quiet => exact ⟨rfl, rfl, rfl, rfl, rfl⟩
  | makes => exact ⟨rfl, rfl, rfl, rfl, rfl⟩
  | acts hw hl he ha =>
    obtain ⟨v, ds, S', e1, _⟩ := actNext_ok ha
    subst e1
    exact absurd (Nat.lt_succ_self _) h

theorem act_is {i : Nat} (hi : i < ops.size) (h : IsAct Dn i) : afterLast (Dn i).last (ms.getD i 0) = true ∧ (Dn (i + 1)).last = some i ∧ (Dn (i + 1)).hist = ⟨i, (Dn i).got, (Dn i).S⟩ :: (Dn i).hist ∧
    (Dn (i + 1)).got = Nat.lor (Dn i).got (ms.getD i 0) ∧ (Dn (i + 1)).pocket = (Dn i).pocket := by
  obtain ⟨o, ho⟩ := opAt Tc hi
  have hs := Tc.steps i o ho
  unfold IsAct at h
  generalize hD : Dn (i + 1) = D' at hs h
  cases hs with
  | acts hw hl he ha =>
    obtain ⟨v, ds, S', e1, _⟩ := actNext_ok ha
    subst e1
    exact ⟨hl, rfl, rfl, rfl, rfl⟩
  | _ => exact absurd h (Nat.lt_irrefl _)

theorem between {i m : Nat} (him : i ≤ m) (hm : m ≤ ops.size) (h : ∀ k, i ≤ k → k < m → ¬ IsAct Dn k) : (Dn m).S = (Dn i).S ∧ (Dn m).ds = (Dn i).ds ∧ (Dn m).got = (Dn i).got ∧ (Dn m).last = (Dn i).last ∧ (Dn m).hist = (Dn i).hist := by
  induction m with
  | zero => have : i = 0 := by omega
            subst this; exact ⟨rfl, rfl, rfl, rfl, rfl⟩
  | succ m ih =>
    by_cases e : i = m + 1
    · subst e; exact ⟨rfl, rfl, rfl, rfl, rfl⟩
    · obtain ⟨a1, a2, a3, a4, a5⟩ := ih (by omega) (by omega) (fun k h1 h2 => h k h1 (by omega))
      obtain ⟨b1, b2, b3, b4, b5⟩ := nonact Tc (by omega) (h m (by omega) (by omega))
      exact ⟨b1.trans a1, b2.trans a2, b3.trans a3, b4.trans a4, b5.trans a5⟩

/- Two cuts of one set. -/
theorem cuts {i m : Nat} (hi : i ≤ ops.size) (hm : m ≤ ops.size) (h : ∀ k, k < ops.size → IsAct Dn k → (k < i ↔ k < m)) : (Dn m).S = (Dn i).S ∧ (Dn m).ds = (Dn i).ds ∧ (Dn m).got = (Dn i).got ∧ (Dn m).last = (Dn i).last ∧ (Dn m).hist = (Dn i).hist := by
  rcases Nat.le_total i m with c | c
  · exact between Tc c hm fun k h1 h2 h3 => absurd ((h k (by omega) h3).2 h2) (by omega)
  · obtain ⟨a1, a2, a3, a4, a5⟩ := between Tc c hi fun k h1 h2 h3 => absurd ((h k (by omega) h3).1 h2) (by omega)
    exact ⟨a1.symm, a2.symm, a3.symm, a4.symm, a5.symm⟩

theorem last_is {i : Nat} (hi : i ≤ ops.size) : match (Dn i).last with
    | none => ∀ k, k < i → ¬ IsAct Dn k
    | some j => j < i ∧ IsAct Dn j ∧ ∀ k, j < k → k < i → ¬ IsAct Dn k := by
  induction i with
  | zero => rw [Tc.last0]; intro k hk; omega
  | succ i ih =>
    have ih := ih (by omega)
    by_cases h : IsAct Dn i
    · rw [(act_is Tc (by omega) h).2.1]
      exact ⟨Nat.lt_succ_self i, h, fun k h1 h2 => by omega⟩
    · rw [(nonact Tc (by omega) h).2.2.2.1]
      split
      · rename_i hl
        rw [hl] at ih
        intro k hk
        by_cases e : k = i
        · subst e; exact h
        · exact ih k (by omega)
      · rename_i j hl
        rw [hl] at ih
        refine ⟨by omega, ih.2.1, fun k h1 h2 => ?_⟩
        by_cases e : k = i
        · subst e; exact h
        · exact ih.2.2 k h1 (by omega)

/- Acts stand in a row: what stands before an act holds all earlier ones. -/
theorem act_row {X : Nat → Prop} (hcl : ∀ i j, i < ops.size → X i → bit (ms.getD i 0) j = true → X j) : ∀ {i : Nat}, i < ops.size → IsAct Dn i → (∀ j, bit (ms.getD i 0) j = true → X j) → ∀ k, k < i → IsAct Dn k → X k := by
  intro i
  induction i using Nat.strongRecOn with
  | _ i ih =>
    intro hi ha hm k hk hka
    have h1 := (act_is Tc hi ha).1
    have h2 := last_is Tc (i := i) (by omega)
    unfold afterLast at h1
    cases hl : (Dn i).last with
    | none => rw [hl] at h2; exact absurd hka (h2 k hk)
    | some j =>
      rw [hl] at h1 h2
      simp only at h1 h2
      have hj := hm j h1
      rcases Nat.lt_trichotomy k j with c | c | c
      · exact ih j h2.1 (by omega) h2.2.1 (fun q hq => hcl j q (by omega) hj hq) k c hka
      · subst c; exact hj
      · exact absurd hka (h2.2.2 k c hk)

theorem pocket_is {i : Nat} (hi : i ≤ ops.size) : ((Dn i).pocket.map (·.1)).Nodup ∧ ∀ p ∈ (Dn i).pocket, p.1 < i ∧ p.1 < res := by
  induction i with
  | zero => rw [Tc.pock0]; exact ⟨by simp, fun p hp => by cases hp⟩
  | succ i ih =>
    obtain ⟨h1, h2⟩ := ih (by omega)
    obtain ⟨o, ho⟩ := opAt Tc (show i < ops.size by omega)
    have hs := Tc.steps i o ho
    generalize hD : Dn (i + 1) = D' at hs ⊢
    have same : ∀ p ∈ (Dn i).pocket, p.1 < i + 1 ∧ p.1 < res := fun p hp => ⟨by have := (h2 p hp).1; omega, (h2 p hp).2⟩
    cases hs with
    | makes hw hk he hr =>
      refine ⟨List.nodup_cons.2 ⟨fun hm => ?_, h1⟩, fun p hp => ?_⟩
      · obtain ⟨p, hp, e⟩ := List.mem_map.1 hm
        have := (h2 p hp).1
        simp only at e
        omega
      · rcases List.mem_cons.1 hp with e | e
        · subst e; exact ⟨Nat.lt_succ_self i, hr⟩
        · exact same p e
    | acts hw hl he ha =>
      obtain ⟨v, ds, S', e1, _⟩ := actNext_ok ha
      subst e1
      exact ⟨h1, same⟩
    | _ => exact ⟨h1, same⟩

theorem pocket_grow {i m : Nat} (him : i ≤ m) (hm : m ≤ ops.size) : ∃ l, (Dn m).pocket = l ++ (Dn i).pocket ∧ ∀ p ∈ l, i ≤ p.1 := by
  induction m with
  | zero => have : i = 0 := by omega
            subst this; exact ⟨[], rfl, fun p hp => by cases hp⟩
  | succ m ih =>
    by_cases e : i = m + 1
    · subst e; exact ⟨[], rfl, fun p hp => by cases hp⟩
    · obtain ⟨l, e1, e2⟩ := ih (by omega) (by omega)
      obtain ⟨o, ho⟩ := opAt Tc (show m < ops.size by omega)
      have hs := Tc.steps m o ho
      generalize hD : Dn (m + 1) = D' at hs ⊢
      cases hs with
      | makes hw hk he hr =>
        refine ⟨(m, _) :: l, by rw [e1]; rfl, fun p hp => ?_⟩
        rcases List.mem_cons.1 hp with c | c
        · subst c; show i ≤ m; omega
        · exact e2 p c
      | acts hw hl he ha =>
        obtain ⟨v, ds, S', e3, _⟩ := actNext_ok ha
        subst e3
        exact ⟨l, e1, e2⟩
      | _ => exact ⟨l, e1, e2⟩

theorem stp_tmps {i : Nat} {o : Oper} (ho : ops[i]? = some o) : ∃ v, (Dn (i + 1)).tmps = putD nt (Dn i).tmps o.dst v := by
  have hs := Tc.steps i o ho
  generalize hD : Dn (i + 1) = D' at hs
  cases hs with
  | acts hw hl he ha =>
    obtain ⟨v, ds, S', e1, _⟩ := actNext_ok ha
    subst e1
    exact ⟨v, rfl⟩
  | _ => exact ⟨_, rfl⟩

theorem putD_get {t : T AV} {dst : Option Tmp} {v : AV} {d : Nat} : (putD nt t dst v).get d = if dst = some d ∧ d < nt then some v else t.get d := by
  have _ := Tc
  unfold putD
  cases dst with
  | none => rw [if_neg (by simp)]
  | some k =>
    simp only
    cases hb : Nat.blt k nt with
    | true =>
      have hk : k < nt := by rw [Nat.blt_eq] at hb; exact hb
      simp only
      by_cases e : k = d
      · subst e; rw [T.get_set, if_pos ⟨rfl, hk⟩]
      · rw [T.get_set_ne _ _ _ _ (fun x => e x.symm), if_neg (by simp [e])]
    | false =>
      simp only
      have hk : ¬ k < nt := fun h => by
        have : Nat.blt k nt = true := by rw [Nat.blt_eq]; exact h
        rw [this] at hb; cases hb
      rw [if_neg]
      rintro ⟨h1, h2⟩
      injection h1 with h1; subst h1; exact hk h2

/- The values that the operations leave. -/
theorem tmps_in {i j : Nat} {o : Oper} {d : Nat} (hji : j < i) (hi : i ≤ ops.size) (ho : ops[j]? = some o) (hd : o.dst = some d) : (Dn i).tmps.get d = (Dn (j + 1)).tmps.get d := by
  induction i with
  | zero => omega
  | succ i ih =>
    by_cases e : j = i
    · subst e; rfl
    · obtain ⟨o', ho'⟩ := opAt Tc (show i < ops.size by omega)
      obtain ⟨v, hv⟩ := stp_tmps Tc ho'
      rw [hv, putD_get Tc, if_neg, ih (by omega) (by omega)]
      rintro ⟨h1, _⟩
      exact e (Tc.tidy.own j i o o' d (by rw [Array.getElem?_toList]; exact ho) (by rw [Array.getElem?_toList]; exact ho') hd h1)

theorem tmps_out {i : Nat} {d : Nat} (hi : i ≤ ops.size) (h : ∀ j o, j < i → ops[j]? = some o → o.dst = some d → ¬ d < nt) : (Dn i).tmps.get d = (Dn 0).tmps.get d := by
  induction i with
  | zero => rfl
  | succ i ih =>
    obtain ⟨o', ho'⟩ := opAt Tc (show i < ops.size by omega)
    obtain ⟨v, hv⟩ := stp_tmps Tc ho'
    rw [hv, putD_get Tc, if_neg, ih (by omega) (fun j o hj => h j o (by omega))]
    rintro ⟨h1, h2⟩
    exact h i o' (Nat.lt_succ_self i) ho' h1 h2

end
end Go.Ev

/- A verified evaluator. Part S41: a region in a drawn order, step by step. -/
namespace Go.Ev

/- What one act writes into the log. -/
def LogOK (S S' : St) : Prop := ∃ l, S'.log = l ++ S.log ∧ ∀ b, b ∉ l → S'.heap.get b = S.heap.get b

theorem LogOK.refl (S : St) : LogOK S S := ⟨[], rfl, fun _ _ => rfl⟩
theorem LogOK.trans {a b c : St} (h : LogOK a b) (h' : LogOK b c) : LogOK a c := by
  obtain ⟨l, e, p⟩ := h
  obtain ⟨l', e', p'⟩ := h'
  refine ⟨l' ++ l, by rw [e', e, List.append_assoc], fun k hk => ?_⟩
  rw [p' k (fun x => hk (List.mem_append_left _ x)), p k (fun x => hk (List.mem_append_right _ x))]

theorem bit_lor {a b j : Nat} : bit (Nat.lor a b) j = (bit a j || bit b j) := Nat.testBit_or a b j

theorem TmR.putD {ρ : Rho} {nt : Nat} {t : T AV} {a : Act} (h : TmR ρ nt t a.tmps) {dst : Option Tmp} {v : AV} {c : Value} (hv : VR ρ v c) : TmR ρ nt (Ev.putD nt t dst v) (a.put dst c).tmps := by
  cases dst with
  | none => exact h
  | some d =>
    unfold Ev.putD
    simp only
    cases hb : Nat.blt d nt with
    | false =>
      have hge : nt ≤ d := by
        rcases Nat.lt_or_ge d nt with q | q
        · have : Nat.blt d nt = true := by rw [Nat.blt_eq]; exact q
          rw [this] at hb; cases hb
        · exact q
      have : (a.put (some d) c).tmps = a.tmps := by
        show a.tmps.setIfInBounds d c = a.tmps
        have := h.size
        exact Array.setIfInBounds_eq_of_size_le (by omega)
      rw [this]; exact h
    | true =>
      have hd : d < nt := by rw [Nat.blt_eq] at hb; exact hb
      exact h.put hv hd

structure RInv (P : Program) (E : Env) (nt : Nat) (N : Nest) (base res : Nat) (ops : Array Oper) (ms : List Nat) (Dn : Nat → Draw) (ρ0 : Rho) (S0 : St) (h0 : Array Obj)
    (X : Nat → Prop) (m : Nat) (ρ : Rho) (w : World) (a : Act) (tX : T AV) : Prop where
  mle : m ≤ ops.size
  cut : ∀ i, i < ops.size → IsAct Dn i → (i < m ↔ X i)
  closed : ∀ i j, i < ops.size → X i → bit (ms.getD i 0) j = true → X j
  hr : HR ρ (Dn m).S w.heap
  dfs : DefsR ρ (Dn m).ds a.defers
  tm : TmR ρ nt tX a.tmps
  tmIn : ∀ j o d, X j → ops[j]? = some o → o.dst = some d → d < nt → tX.get d = (Dn (j + 1)).tmps.get d
  tmOut : ∀ d, (∀ j o, X j → ops[j]? = some o → o.dst = some d → ¬ d < nt) → tX.get d = (Dn 0).tmps.get d
  pk : ∀ p ∈ (Dn ops.size).pocket, X p.1 → bit (Dn m).got p.1 = false → ∃ L, ρ.loc (base + p.1) = some L ∧ PockOK ρ w.heap L p.2 ∧ Away ρ (Dn m).S L ∧ h0.size ≤ L.blk
  pkdis : ∀ p ∈ (Dn ops.size).pocket, ∀ q ∈ (Dn ops.size).pocket, X p.1 → X q.1 → bit (Dn m).got p.1 = false → bit (Dn m).got q.1 = false → p.1 ≠ q.1 → ∀ L L', ρ.loc (base + p.1) = some L → ρ.loc (base + q.1) = some L' → L.blk ≠ L'.blk
  free : ∀ j, j < res → ¬ X j → ρ.loc (base + j) = none
  room : base + res ≤ (Dn m).S.next
  base0 : base = S0.next
  le : ρ0.le ρ
  size : h0.size ≤ w.heap.size
  keep : ∀ k, k < h0.size → ¬ Own ρ0 S0 k → w.heap[k]? = h0[k]?
  own : ∀ k, k < h0.size → Own ρ (Dn m).S k → Own ρ0 S0 k
  anyAt : ∀ k, k < h0.size → AnyAt ρ (Dn m).S k → AnyAt ρ0 S0 k
  fresh : ∀ b L, ρ.loc b = some L → ρ0.loc b = some L ∨ S0.next ≤ b
  glob : GlobalsAt ρ E.nglob
  env : EnvOK P E
  facts : FactsOK E ρ.sig
  logs : ∀ i, i < ops.size → X i → IsAct Dn i → LogOK (adopt base (ms.getD i 0) (Dn i).got (Dn i).pocket (Dn i).S) (Dn (i + 1)).S
  outside : ∀ j, X j → j < ops.size

section
variable {P : Program} {E : Env} {nt : Nat} {N : Nest} {base res : Nat} {ops : Array Oper} {ms : List Nat} {Dn : Nat → Draw} {ρ0 : Rho} {S0 : St} {h0 : Array Obj}
  (Tc : RTrace E nt N base res ops ms Dn) {X : Nat → Prop} {m : Nat} {ρ : Rho} {w : World} {a : Act} {tX : T AV} (I : RInv P E nt N base res ops ms Dn ρ0 S0 h0 X m ρ w a tX)
include Tc I

/- An operation that is ready. -/
def Ready (ops : Array Oper) (X : Nat → Prop) (i : Nat) (o : Oper) : Prop := ops[i]? = some o ∧ ¬ X i ∧ ∀ e ∈ o.after.toList, Region.binds .any e = true → X e.on

variable {i : Nat} {o : Oper} (hrd : Ready ops X i o)
include hrd

theorem ready_lt : i < ops.size := by
  have _ := Tc
  have _ := I
  have := hrd.1
  rcases Nat.lt_or_ge i ops.size with h | h
  · exact h
  · rw [Array.getElem?_eq_none h] at this; cases this

theorem ready_mask : ∀ j, bit (ms.getD i 0) j = true → X j := by
  intro j hj
  obtain ⟨e, he, hb, hc⟩ := Tc.bits i o j hrd.1 hj
  have hx := hrd.2.2 e he hb
  rcases hc with hc | hc
  · subst hc; exact hx
  · exact I.closed e.on j (I.outside _ hx) hx hc

/- The operation reads what it reads in the text's order. -/
theorem ready_reads : ∀ d ∈ opTmps ops.toList o, tX.get d = (Dn i).tmps.get d := by
  intro d hd
  have hi := ready_lt Tc I hrd
  have hil : ops.toList[i]? = some o := by rw [Array.getElem?_toList]; exact hrd.1
  by_cases hex : ∃ j o', X j ∧ ops[j]? = some o' ∧ o'.dst = some d ∧ d < nt
  · obtain ⟨j, o', hxj, hoj, hdj, hdn⟩ := hex
    rw [I.tmIn j o' d hxj hoj hdj hdn]
    rcases Tc.tidy.reads i o d hil hd j o' (by rw [Array.getElem?_toList]; exact hoj) hdj with c | c | c
    · subst c; exact absurd hxj hrd.2.1
    · have hji := bit_lt Tc hi c
      exact (tmps_in Tc hji (by omega) hoj hdj).symm
    · exact absurd (I.closed j i (I.outside _ hxj) hxj c) hrd.2.1
  · rw [I.tmOut d fun j o' h1 h2 h3 h4 => hex ⟨j, o', h1, h2, h3, h4⟩]
    refine (tmps_out Tc (by omega) fun j o' hj ho' hdj hdn => ?_).symm
    have hjx : ¬ X j := fun h => hex ⟨j, o', h, ho', hdj, hdn⟩
    rcases Tc.tidy.reads i o d hil hd j o' (by rw [Array.getElem?_toList]; exact ho') hdj with c | c | c
    · omega
    · exact hjx (ready_mask Tc I hrd j c)
    · have := bit_lt Tc (show j < ops.size by omega) c; omega

theorem ready_evO : ∀ x ∈ o.op.operands, evO E tX x = evO E (Dn i).tmps x := by
  intro x hx
  cases x with
  | tmp d =>
    have : d ∈ opTmps ops.toList o := by
      unfold opTmps
      refine List.mem_append_left _ (List.mem_filterMap.2 ⟨.tmp d, Array.mem_toList_iff.2 hx, rfl⟩)
    show (match tX.get d with | some v => R.ok v | none => .ok undefA) = (match (Dn i).tmps.get d with | some v => R.ok v | none => .ok undefA)
    rw [ready_reads Tc I hrd d this]
  | _ => rfl

theorem ready_wanted : Region.wanted o (yielded ops a.tmps) = wantedA ops.toList (Dn i).tmps o.guard := by
  rw [← wanted_ok I.tm ops o]
  unfold wantedA
  cases hg : o.guard with
  | none => rfl
  | some g =>
    show guardA ops.toList tX g = guardA ops.toList (Dn i).tmps g
    unfold guardA yieldedA
    cases hq : ops.toList[g.1]? with
    | none => rfl
    | some o' =>
      simp only
      cases hd : o'.dst with
      | none => rfl
      | some d =>
        have : d ∈ opTmps ops.toList o := by
          unfold opTmps
          rw [hg]
          simp only [hq]
          exact List.mem_append_right _ (by simp [hd])
        simp only [ready_reads Tc I hrd d this]

/- What is done is closed. -/
theorem closed_add : ∀ k j, k < ops.size → (X k ∨ k = i) → bit (ms.getD k 0) j = true → (X j ∨ j = i) := by
  intro k j hk hx hb
  rcases hx with hx | hx
  · exact .inl (I.closed k j hk hx hb)
  · subst hx; exact .inl (ready_mask Tc I hrd j hb)

/- The values behind one more. -/
theorem tmps_add {ρ' : Rho} (hle : ρ.le ρ') {v : AV} {c : Value} (hv : VR ρ' v c) (hput : (Dn (i + 1)).tmps = putD nt (Dn i).tmps o.dst v) {a0 : Act} (ha0 : a0.tmps = a.tmps) :
    TmR ρ' nt (putD nt tX o.dst v) (a0.put o.dst c).tmps ∧
    (∀ j o' d, (X j ∨ j = i) → ops[j]? = some o' → o'.dst = some d → d < nt → (putD nt tX o.dst v).get d = (Dn (j + 1)).tmps.get d) ∧
    (∀ d, (∀ j o', (X j ∨ j = i) → ops[j]? = some o' → o'.dst = some d → ¬ d < nt) → (putD nt tX o.dst v).get d = (Dn 0).tmps.get d) := by
  have hio := hrd.1
  refine ⟨?_, ?_, ?_⟩
  · exact TmR.putD (by rw [ha0]; exact I.tm.mono hle) hv
  · intro j o' d hj ho' hd hdn
    rw [putD_get Tc]
    by_cases e : o.dst = some d
    · rw [if_pos ⟨e, hdn⟩]
      have : j = i := Tc.tidy.own j i o' o d (by rw [Array.getElem?_toList]; exact ho') (by rw [Array.getElem?_toList]; exact hio) hd e
      subst this
      rw [hput, putD_get Tc, if_pos ⟨e, hdn⟩]
    · rw [if_neg (fun h => e h.1)]
      rcases hj with hj | hj
      · exact I.tmIn j o' d hj ho' hd hdn
      · subst hj
        rw [hio] at ho'
        cases ho'
        exact absurd hd e
  · intro d h
    rw [putD_get Tc, if_neg (fun hh => h i o (.inr rfl) hio hh.1 hh.2)]
    exact I.tmOut d fun j o' hj => h j o' (.inl hj)

end
end Go.Ev

/- A verified evaluator. Part S42: what an operation of a region that draws its order carries on. -/
namespace Go.Ev

theorem adopt_stay {base want got b : Nat} : ∀ {ps : List (Nat × Mk)} {S : St}, (∀ p ∈ ps, wantB want got p.1 = true → b ≠ base + p.1) → (adopt base want got ps S).heap.get b = S.heap.get b := by
  intro ps
  induction ps with
  | nil => intro S _; rfl
  | cons p ps ih =>
    intro S h
    unfold adopt
    split
    · rename_i hw
      rw [ih fun q hq => h q (List.mem_cons_of_mem _ hq), St.addAt_get, if_neg (h p List.mem_cons_self hw)]
    · exact ih fun q hq => h q (List.mem_cons_of_mem _ hq)

theorem adopt_grp {base want got : Nat} : ∀ {ps : List (Nat × Mk)} {S : St}, (adopt base want got ps S).grp = S.grp := by
  intro ps
  induction ps with
  | nil => intro S; rfl
  | cons p ps ih =>
    intro S
    unfold adopt
    split
    · rw [ih, St.addAt_eq]
    · exact ih

section
variable {P : Program} {E : Env} {nt : Nat} {N : Nest} {base res : Nat} {ops : Array Oper} {ms : List Nat} {Dn : Nat → Draw} {ρ0 : Rho} {S0 : St} {h0 : Array Obj}
  (Tc : RTrace E nt N base res ops ms Dn) {X : Nat → Prop} {m : Nat} {ρ : Rho} {w : World} {a : Act} {tX : T AV} (I : RInv P E nt N base res ops ms Dn ρ0 S0 h0 X m ρ w a tX)
include Tc I

/- Makes that may come. -/
structure MayCome (Dn : Nat → Draw) (n : Nat) (X : Nat → Prop) (want : Nat) (ps : List (Nat × Mk)) : Prop where
  nodup : (ps.map (·.1)).Nodup
  mem : ∀ p ∈ ps, p ∈ (Dn n).pocket
  done : ∀ p ∈ ps, bit want p.1 = true → X p.1

variable {want : Nat} {ps : List (Nat × Mk)} (hps : MayCome Dn ops.size X want ps)
include hps

theorem come_hr : HR ρ (adopt base want (Dn m).got ps (Dn m).S) w.heap ∧
    (∀ b o, (adopt base want (Dn m).got ps (Dn m).S).heap.get b = some o → (Dn m).S.heap.get b = some o ∨ ∃ p ∈ ps, wantB want (Dn m).got p.1 = true ∧ b = base + p.1) := by
  have _ := Tc
  refine adopt_ok I.hr hps.nodup (fun p hp hw => ?_) (fun p hp q hq hne hw hw' L L' e e' => ?_)
  · simp only [wantB, Bool.and_eq_true, Bool.not_eq_true'] at hw
    obtain ⟨L, e1, e2, e3, _⟩ := I.pk p (hps.mem p hp) (hps.done p hp hw.1) hw.2
    exact ⟨L, e1, e2, e3⟩
  · simp only [wantB, Bool.and_eq_true, Bool.not_eq_true'] at hw hw'
    exact I.pkdis p (hps.mem p hp) q (hps.mem q hq) (hps.done p hp hw.1) (hps.done q hq hw'.1) hw.2 hw'.2 hne L L' e e'

theorem come_any {k : Nat} (h : AnyAt ρ (adopt base want (Dn m).got ps (Dn m).S) k) : AnyAt ρ (Dn m).S k ∨ ∃ p ∈ ps, wantB want (Dn m).got p.1 = true ∧ ∃ L, ρ.loc (base + p.1) = some L ∧ L.blk = k := by
  obtain ⟨b, o, L, e1, e2, e3⟩ := h
  rcases (come_hr Tc I hps).2 b o e1 with h1 | ⟨p, hp, hw, hb⟩
  · exact .inl ⟨b, o, L, h1, e2, e3⟩
  · subst hb; exact .inr ⟨p, hp, hw, L, e2, e3⟩

theorem come_own {k : Nat} (h : Own ρ (adopt base want (Dn m).got ps (Dn m).S) k) : Own ρ (Dn m).S k ∨ ∃ p ∈ ps, wantB want (Dn m).got p.1 = true ∧ ∃ L, ρ.loc (base + p.1) = some L ∧ L.blk = k := by
  obtain ⟨b, o, L, e1, er, e2, e3⟩ := h
  rcases (come_hr Tc I hps).2 b o e1 with h1 | ⟨p, hp, hw, hb⟩
  · exact .inl ⟨b, o, L, h1, er, e2, e3⟩
  · subst hb; exact .inr ⟨p, hp, hw, L, e2, e3⟩

/- A make that does not come now lies apart. -/
theorem apart {q : Nat × Mk} (hq : q ∈ (Dn ops.size).pocket) (hx : X q.1) (hg : bit (Dn m).got q.1 = false) (hnot : ¬ (q ∈ ps ∧ wantB want (Dn m).got q.1 = true)) {L : Loc} (hL : ρ.loc (base + q.1) = some L) :
    ¬ AnyAt ρ (adopt base want (Dn m).got ps (Dn m).S) L.blk := by
  intro h
  obtain ⟨L', e1, e2, e3, e4⟩ := I.pk q hq hx hg
  rw [hL] at e1; cases e1
  rcases come_any Tc I hps h with ⟨b, o, M, f1, f2, f3⟩ | ⟨p, hp, hw, M, f1, f2⟩
  · exact e3 b o M f1 f2 f3
  · have hw' := hw
    simp only [wantB, Bool.and_eq_true, Bool.not_eq_true'] at hw'
    by_cases c : p.1 = q.1
    · have hn := (pocket_is Tc (Nat.le_refl ops.size)).1
      have : p = q := by
        have key : ∀ (l : List (Nat × Mk)), (l.map (·.1)).Nodup → p ∈ l → q ∈ l → p = q := by
          intro l
          induction l with
          | nil => intro _ h; cases h
          | cons x l ih =>
            intro hn h h'
            have hx := List.nodup_cons.1 hn
            rcases List.mem_cons.1 h with a | a <;> rcases List.mem_cons.1 h' with b | b
            · rw [a, b]
            · subst a; exact absurd (List.mem_map_of_mem (f := (·.1)) b) (by rw [← c]; exact hx.1)
            · subst b; exact absurd (List.mem_map_of_mem (f := (·.1)) a) (by rw [c]; exact hx.1)
            · exact ih hx.2 a b
        exact key _ hn (hps.mem p hp) hq
      subst this
      exact hnot ⟨hp, hw⟩
    · exact I.pkdis p (hps.mem p hp) q hq (hps.done p hp hw'.1) hx hw'.2 hg c M L f1 hL f2

/- What an extension from there carries on. -/
structure Carried (E : Env) (base res : Nat) (ρ0 : Rho) (S0 : St) (h0 : Array Obj) (X : Nat → Prop) (ρ ρ' : Rho) (S' : St) (w' : World) : Prop where
  le : ρ0.le ρ'
  le1 : ρ.le ρ'
  size : h0.size ≤ w'.heap.size
  keep : ∀ k, k < h0.size → ¬ Own ρ0 S0 k → w'.heap[k]? = h0[k]?
  own : ∀ k, k < h0.size → Own ρ' S' k → Own ρ0 S0 k
  anyAt : ∀ k, k < h0.size → AnyAt ρ' S' k → AnyAt ρ0 S0 k
  fresh : ∀ b L, ρ'.loc b = some L → ρ0.loc b = some L ∨ S0.next ≤ b
  free : ∀ j, j < res → ¬ X j → ρ'.loc (base + j) = none
  room : base + res ≤ S'.next
  glob : GlobalsAt ρ' E.nglob
  facts : FactsOK E ρ'.sig

theorem carry {ρ' : Rho} {S' : St} {w' : World} (he : Ext ρ (adopt base want (Dn m).got ps (Dn m).S) w.heap ρ' S' w'.heap) : Carried E base res ρ0 S0 h0 X ρ ρ' S' w' ∧
    (∀ q ∈ (Dn ops.size).pocket, X q.1 → bit (Dn m).got q.1 = false → ¬ (q ∈ ps ∧ wantB want (Dn m).got q.1 = true) → ∃ L, ρ'.loc (base + q.1) = some L ∧ PockOK ρ' w'.heap L q.2 ∧ Away ρ' S' L ∧ h0.size ≤ L.blk) := by
  have hn := (adopt_next (base := base) (want := want) (got := (Dn m).got) ps (Dn m).S).1
  have hroom := I.room
  have far : ∀ p ∈ ps, wantB want (Dn m).got p.1 = true → ∀ L, ρ.loc (base + p.1) = some L → h0.size ≤ L.blk := by
    intro p hp hw L hL
    simp only [wantB, Bool.and_eq_true, Bool.not_eq_true'] at hw
    obtain ⟨L', e1, _, _, e4⟩ := I.pk p (hps.mem p hp) (hps.done p hp hw.1) hw.2
    rw [hL] at e1; cases e1; exact e4
  refine ⟨⟨I.le.trans he.le, he.le, Nat.le_trans I.size he.size, ?_, ?_, ?_, ?_, ?_, ?_, I.glob.mono he.le, by rw [he.le.2]; exact I.facts⟩, ?_⟩
  · intro k hk hno
    rw [he.keep k (Nat.lt_of_lt_of_le hk I.size), I.keep k hk hno]
    intro ho
    rcases come_own Tc I hps ho with h1 | ⟨p, hp, hw, L, e1, e2⟩
    · exact hno (I.own k hk h1)
    · have := far p hp hw L e1; omega
  · intro k hk ho
    rcases come_own Tc I hps (he.own k (Nat.lt_of_lt_of_le hk I.size) ho) with h1 | ⟨p, hp, hw, L, e1, e2⟩
    · exact I.own k hk h1
    · have := far p hp hw L e1; omega
  · intro k hk ho
    rcases come_any Tc I hps (he.anyAt k (Nat.lt_of_lt_of_le hk I.size) ho) with h1 | ⟨p, hp, hw, L, e1, e2⟩
    · exact I.anyAt k hk h1
    · have := far p hp hw L e1; omega
  · intro b L e
    rcases he.fresh b L e with h1 | h1
    · exact I.fresh b L h1
    · have hb := I.base0; exact .inr (by omega)
  · intro j hj hx
    cases hq : ρ'.loc (base + j) with
    | none => rfl
    | some L =>
      rcases he.fresh _ L hq with h1 | h1
      · rw [I.free j hj hx] at h1; cases h1
      · omega
  · have := he.nextle; omega
  · intro q hq hx hg hnot
    obtain ⟨L, e1, e2, e3, e4⟩ := I.pk q hq hx hg
    have hap := apart Tc I hps hq hx hg hnot e1
    have hlt := I.hr.bound _ _ e1
    refine ⟨L, he.le.1 _ _ e1, e2.mono he.le (he.keep _ hlt fun ⟨b, o, M, f1, _, f2, f3⟩ => hap ⟨b, o, M, f1, f2, f3⟩), ?_, e4⟩
    intro b o L' f1 f2 f3
    exact hap (he.anyAt _ hlt ⟨b, o, L', f1, f2, f3⟩)

/- Where the heap's knowledge stays as it was. -/
theorem carry_same {ρ' : Rho} {w' : World} (he : Ext ρ (adopt base want (Dn m).got ps (Dn m).S) w.heap ρ' (adopt base want (Dn m).got ps (Dn m).S) w'.heap) : Carried E base res ρ0 S0 h0 X ρ ρ' (Dn m).S w' ∧ HR ρ' (Dn m).S w'.heap ∧
    (∀ q ∈ (Dn ops.size).pocket, X q.1 → bit (Dn m).got q.1 = false → ∃ L, ρ'.loc (base + q.1) = some L ∧ PockOK ρ' w'.heap L q.2 ∧ Away ρ' (Dn m).S L ∧ h0.size ≤ L.blk) := by
  obtain ⟨cr, rest⟩ := carry Tc I hps he
  have away : ∀ {L : Loc}, Away ρ (Dn m).S L → Away ρ' (Dn m).S L := by
    intro L ha b o L' e1 e2 e3
    obtain ⟨M, f1, _⟩ := I.hr.objs b o e1
    have := he.le.1 _ _ f1
    rw [e2] at this; cases this
    exact ha b o L' e1 f1 e3
  have none_at : ∀ p ∈ ps, wantB want (Dn m).got p.1 = true → (Dn m).S.heap.get (base + p.1) = none := by
    intro p hp hw
    simp only [wantB, Bool.and_eq_true, Bool.not_eq_true'] at hw
    obtain ⟨L, e1, _, e3, _⟩ := I.pk p (hps.mem p hp) (hps.done p hp hw.1) hw.2
    cases hq : (Dn m).S.heap.get (base + p.1) with
    | none => rfl
    | some o => exact absurd rfl (e3 _ o L hq e1)
  have sub : ∀ b o, (Dn m).S.heap.get b = some o → (adopt base want (Dn m).got ps (Dn m).S).heap.get b = some o := by
    intro b o e
    rw [adopt_stay]
    · exact e
    · intro p hp hw c
      rw [c, none_at p hp hw] at e; cases e
  have hn := (adopt_next (base := base) (want := want) (got := (Dn m).got) ps (Dn m).S).1
  refine ⟨⟨cr.le, cr.le1, cr.size, cr.keep, ?_, ?_, cr.fresh, cr.free, I.room, cr.glob, cr.facts⟩, ⟨?_, ?_, ?_, he.hr.bound, ?_, ?_⟩, ?_⟩
  · rintro k hk ⟨b, o, L, e1, e2, e3, e4⟩; exact cr.own k hk ⟨b, o, L, sub b o e1, e2, e3, e4⟩
  · rintro k hk ⟨b, o, L, e1, e3, e4⟩; exact cr.anyAt k hk ⟨b, o, L, sub b o e1, e3, e4⟩
  · intro b o e; exact he.hr.objs b o (sub b o e)
  · intro b b' o o' L L' e e'; exact he.hr.inj b b' o o' L L' (sub b o e) (sub b' o' e')
  · intro b hb
    cases hq : ρ'.loc b with
    | none => rfl
    | some L =>
      rcases he.fresh b L hq with h1 | h1
      · have := I.hr.lt h1; omega
      · have := he.hr.lt hq; omega
  · intro b b' o o' g hne e e' g1 g2
    have := he.hr.grp b b' o o' g hne (sub b o e) (sub b' o' e') g1 g2
    rw [adopt_grp] at this; exact this
  · exact I.hr.gnext
  · intro q hq hx hg
    by_cases hin : q ∈ ps ∧ wantB want (Dn m).got q.1 = true
    · obtain ⟨L, e1, e2, e3, e4⟩ := I.pk q hq hx hg
      obtain ⟨g, hget⟩ := adopt_at (base := base) (S := (Dn m).S) hps.nodup q hin.1 hin.2
      obtain ⟨M, f1, f2⟩ := he.hr.objs _ _ hget
      have := he.le.1 _ _ e1
      rw [f1] at this; cases this
      exact ⟨_, f1, PockOK.of_or f2, away e3, e4⟩
    · obtain ⟨L, e1, e2, e3, e4⟩ := rest q hq hx hg hin
      obtain ⟨L', f1, _, f3, _⟩ := I.pk q hq hx hg
      have := he.le.1 _ _ f1
      rw [e1] at this; cases this
      exact ⟨L, e1, e2, away f3, e4⟩

end
end Go.Ev

/- A verified evaluator. Part S43: the steps of a region that draws its order. -/
namespace Go.Ev

theorem quiet_same {E : Env} {t : T AV} {S S1 : St} {o : Op} {v : AV} (hk : opKind o = .quiet) (h : evOp E t S o = .ok (.val v S1)) : S1 = S := by
  have vr : ∀ {r : R AV}, valR S r = .ok (.val v S1) → S1 = S := by
    intro r h
    unfold valR at h
    cases r with
    | ok a => cases h; rfl
    | bad w => cases h
  cases o <;> first | (simp [opKind] at hk; done) | skip
  case makeMap tt r => cases r <;> simp [opKind] at hk
  case load tt x =>
    obtain ⟨_, _, h2⟩ := R.bind_ok (show (evO E t x).bind _ = _ from h)
    exact vr h2
  case lookup tt x y ok =>
    obtain ⟨_, _, h2⟩ := R.bind_ok (show (evO E t x).bind _ = _ from h)
    obtain ⟨_, _, h3⟩ := R.bind_ok h2
    exact vr h3
  case binOp op tt x y yt =>
    obtain ⟨a, _, h2⟩ := R.bind_ok (show (evO E t x).bind _ = _ from h)
    obtain ⟨b, _, h3⟩ := R.bind_ok h2
    unfold aBin at h3
    cases a with
    | sx e => obtain ⟨_, _, h4⟩ := R.bind_ok h3; exact vr h4
    | byte m r =>
      simp only at h3
      split at h3
      · split at h3
        · split at h3
          · split at h3
            · exact vr h3
            · cases h3
          · cases h3
        · cases h3
      · cases h3
    | int k n =>
      cases b with
      | int k' n' =>
        simp only at h3
        split at h3
        · exact vr h3
        · split at h3
          · exact vr h3
          · cases h3
      | sx e => obtain ⟨_, _, h4⟩ := R.bind_ok h3; exact vr h4
      | _ => cases h3
    | str s =>
      cases b with
      | str s' => exact vr h3
      | _ => cases h3
    | _ =>
      simp only at h3
      unfold aBinOther at h3
      cases op <;> first | (simp [opKind] at hk; done) | exact vr h3
  case call c =>
    obtain ⟨cl, ar, at'⟩ := c
    cases cl with
    | builtin b =>
      obtain ⟨args, _, h2⟩ := R.bind_ok (show (evOs E t ar.toList).bind _ = _ from h)
      simp only at h2
      cases b <;> first | (simp [opKind, quietBuiltin] at hk; done) | skip
      all_goals
        unfold aBuiltin at h2
        simp only at h2
        split at h2 <;> first | (rename_i heq _ _; cases heq; done) | skip
      all_goals first
        | (obtain ⟨_, _, h3⟩ := R.bind_ok h2; cases h3; rfl)
        | (split at h2 <;> first | (cases h2; rfl) | cases h2)
        | cases h2
        | skip
    | _ => simp [opKind] at hk

end Go.Ev

/- A verified evaluator. Part S44: one step of a drawn order. -/
namespace Go.Ev

section
variable {P : Program} {E : Env} {b : Frame} {ops : Array Oper} {i : Nat} {rest : List Nat} {items : List Item} {o : Oper} {a : Act} {w : World} {cs : List Frame}

theorem val_step {ρ : Rho} {S S' : St} {v : AV} (h : NextOK P ρ S w (.val v S') ((execOp a.eval o).run P w)) (ho : ops[i]? = some o) (hw : Region.wanted o (yielded ops a.tmps) = true) (hea : o.semAt b.roundOf a.eval = execOp a.eval o) :
    ∃ ρ' w' c, Ext ρ S w.heap ρ' S' w'.heap ∧ VR ρ' v c ∧ step P (lone (b.atR a (.inRegion ops (i :: rest) :: items)) cs w) = .next (lone (b.atR (a.put o.dst c) (.inRegion ops rest :: items)) cs w') ∧ SameOs w w' := by
  generalize hr : (execOp a.eval o).run P w = r at h
  cases h with
  | val he hv hso => exact ⟨_, _, _, he, hv, step_value ho hw hea hr, hso⟩
  | skip he hso => exact ⟨_, _, _, he, .tup .nil, step_skipped ho hw hea hr, hso⟩
end

section
variable {P : Program} {E : Env} {nt : Nat} {N : Nest} {base res : Nat} {ops : Array Oper} {ms : List Nat} {Dn : Nat → Draw} {ρ0 : Rho} {S0 : St} {h0 : Array Obj}
  (Tc : RTrace E nt N base res ops ms Dn) {X : Nat → Prop} {m : Nat} {ρ : Rho} {w : World} {a : Act} {tX : T AV} (I : RInv P E nt N base res ops ms Dn ρ0 S0 h0 X m ρ w a tX)
include Tc

theorem made_at {i : Nat} (hi : i < ops.size) {q : Nat × Mk} (hq : q ∈ (Dn ops.size).pocket) (hqi : q.1 = i) : q ∈ (Dn (i + 1)).pocket ∧ q ∉ (Dn i).pocket := by
  obtain ⟨l, e1, e2⟩ := pocket_grow Tc (show i + 1 ≤ ops.size by omega) (Nat.le_refl _)
  rw [e1, List.mem_append] at hq
  refine ⟨?_, fun h => ?_⟩
  · rcases hq with h | h
    · have := e2 q h; omega
    · exact h
  · have := ((pocket_is Tc (show i ≤ ops.size by omega)).2 q h).1; omega

include I

theorem I_ctx : Ctx P E ρ (Dn m).S w tX nt a := by
  have _ := Tc
  exact ⟨I.env, I.glob, I.tm, I.hr, I.facts⟩

variable {i : Nat} {o : Oper} (hrd : Ready ops X i o)
include hrd

/- One more value, the heap's knowledge as it was. -/
theorem inv_value (hna : ¬ IsAct Dn i) (hnm : (Dn (i + 1)).pocket = (Dn i).pocket) {ρ' : Rho} {w' : World} (cr : Carried E base res ρ0 S0 h0 X ρ ρ' (Dn m).S w') (hr' : HR ρ' (Dn m).S w'.heap)
    (pk' : ∀ q ∈ (Dn ops.size).pocket, X q.1 → bit (Dn m).got q.1 = false → ∃ L, ρ'.loc (base + q.1) = some L ∧ PockOK ρ' w'.heap L q.2 ∧ Away ρ' (Dn m).S L ∧ h0.size ≤ L.blk)
    {v : AV} {c : Value} (hv : VR ρ' v c) (hput : (Dn (i + 1)).tmps = putD nt (Dn i).tmps o.dst v) :
    RInv P E nt N base res ops ms Dn ρ0 S0 h0 (fun k => X k ∨ k = i) m ρ' w' (a.put o.dst c) (putD nt tX o.dst v) := by
  have hi := ready_lt Tc I hrd
  obtain ⟨t1, t2, t3⟩ := tmps_add Tc I hrd cr.le1 hv hput (a0 := a) rfl
  have notmade : ∀ q ∈ (Dn ops.size).pocket, q.1 = i → False := by
    intro q hq hqi
    obtain ⟨h1, h2⟩ := made_at Tc hi hq hqi
    rw [hnm] at h1; exact h2 h1
  refine { mle := I.mle, cut := ?_, closed := closed_add Tc I hrd, hr := hr', dfs := ?_, tm := t1, tmIn := t2, tmOut := t3, pk := ?_, pkdis := ?_, free := fun j hj hx => cr.free j hj (fun h => hx (.inl h)),
           room := cr.room, base0 := I.base0, le := cr.le, size := cr.size, keep := cr.keep, own := cr.own, anyAt := cr.anyAt, fresh := cr.fresh, glob := cr.glob, env := I.env, facts := cr.facts, logs := ?_, outside := ?_ }
  · intro k hk ha
    rw [I.cut k hk ha]
    exact ⟨.inl, fun h => h.resolve_right fun e => hna (e ▸ ha)⟩
  · rw [put_defers]; exact I.dfs.mono cr.le1
  · intro q hq hx hg
    rcases hx with hx | hx
    · exact pk' q hq hx hg
    · exact (notmade q hq hx).elim
  · intro p hp q hq hx hx' hg hg' hne L L' e e'
    rcases hx with hx | hx
    · rcases hx' with hx' | hx'
      · obtain ⟨M, f1, _⟩ := I.pk p hp hx hg
        obtain ⟨M', f2, _⟩ := I.pk q hq hx' hg'
        have e1 := cr.le1.1 _ _ f1
        have e2 := cr.le1.1 _ _ f2
        rw [e] at e1; rw [e'] at e2
        cases e1; cases e2
        exact I.pkdis p hp q hq hx hx' hg hg' hne L L' f1 f2
      · exact (notmade q hq hx').elim
    · exact (notmade p hp hx).elim
  · intro k hk hx ha
    rcases hx with hx | hx
    · exact I.logs k hk hx ha
    · exact absurd ha (hx ▸ hna)
  · intro j hj
    rcases hj with hj | hj
    · exact I.outside j hj
    · omega

/- No make comes. -/
theorem come_none : MayCome Dn ops.size X 0 [] := by
  have _ := Tc
  have _ := I
  have _ := hrd
  exact ⟨by simp, (fun p hp => by cases hp), (fun p hp => by cases hp)⟩

/- The makes ahead of an operation. -/
theorem come_mask : MayCome Dn ops.size X (ms.getD i 0) (Dn i).pocket := by
  have hi := ready_lt Tc I hrd
  refine ⟨(pocket_is Tc (show i ≤ ops.size by omega)).1, fun p hp => ?_, fun p hp hb => ready_mask Tc I hrd p.1 hb⟩
  obtain ⟨l, e1, _⟩ := pocket_grow Tc (show i ≤ ops.size by omega) (Nat.le_refl _)
  rw [e1]; exact List.mem_append_right _ hp

theorem come_all : MayCome Dn ops.size X (ms.getD i 0) (Dn ops.size).pocket :=
  ⟨(pocket_is Tc (Nat.le_refl _)).1, fun _ hp => hp, fun p _ hb => ready_mask Tc I hrd p.1 hb⟩

/- A ready act stands at a cut. -/
theorem act_cut (ha : IsAct Dn i) : (Dn m).S = (Dn i).S ∧ (Dn m).ds = (Dn i).ds ∧ (Dn m).got = (Dn i).got ∧ (Dn m).last = (Dn i).last ∧ (Dn m).hist = (Dn i).hist := by
  have hi := ready_lt Tc I hrd
  refine cuts Tc (by omega) I.mle fun k hk hka => ?_
  rw [I.cut k hk hka]
  constructor
  · intro h; exact act_row Tc I.closed hi ha (ready_mask Tc I hrd) k h hka
  · intro h
    rcases Nat.lt_trichotomy k i with c | c | c
    · exact c
    · subst c; exact absurd h hrd.2.1
    · exact absurd (act_row Tc I.closed hk hka (fun j hj => I.closed k j hk h hj) i c ha) hrd.2.1

/- One more act. -/
theorem inv_act (ha : IsAct Dn i) (hnm : (Dn (i + 1)).pocket = (Dn i).pocket) (hgot : (Dn (i + 1)).got = Nat.lor (Dn i).got (ms.getD i 0)) {ρ' : Rho} {w' : World}
    (he : Ext ρ (adopt base (ms.getD i 0) (Dn i).got (Dn i).pocket (Dn i).S) w.heap ρ' (Dn (i + 1)).S w'.heap) {a0 : Act} (ha0 : a0.tmps = a.tmps) (hds : DefsR ρ' (Dn (i + 1)).ds a0.defers)
    {v : AV} {c : Value} (hv : VR ρ' v c) (hput : (Dn (i + 1)).tmps = putD nt (Dn i).tmps o.dst v) :
    RInv P E nt N base res ops ms Dn ρ0 S0 h0 (fun k => X k ∨ k = i) (i + 1) ρ' w' (a0.put o.dst c) (putD nt tX o.dst v) := by
  have hi := ready_lt Tc I hrd
  obtain ⟨c1, c2, c3, c4, c5⟩ := act_cut Tc I hrd ha
  have he' := he
  rw [← c1, ← c3] at he
  obtain ⟨cr, rest⟩ := carry Tc I (come_mask Tc I hrd) he
  obtain ⟨t1, t2, t3⟩ := tmps_add Tc I hrd cr.le1 hv hput ha0
  have notmade : ∀ q ∈ (Dn ops.size).pocket, q.1 = i → False := by
    intro q hq hqi
    obtain ⟨h1, h2⟩ := made_at Tc hi hq hqi
    rw [hnm] at h1; exact h2 h1
  have bits : ∀ j, bit (Dn (i + 1)).got j = false → bit (Dn m).got j = false ∧ bit (ms.getD i 0) j = false := by
    intro j hj
    rw [hgot, bit_lor] at hj
    rw [c3]; simpa using hj
  have pkk : ∀ q ∈ (Dn ops.size).pocket, (X q.1 ∨ q.1 = i) → bit (Dn (i + 1)).got q.1 = false → X q.1 ∧ bit (Dn m).got q.1 = false ∧ ∃ L, ρ'.loc (base + q.1) = some L ∧ PockOK ρ' w'.heap L q.2 ∧ Away ρ' (Dn (i + 1)).S L ∧ h0.size ≤ L.blk := by
    intro q hq hx hg
    obtain ⟨g1, g2⟩ := bits q.1 hg
    rcases hx with hx | hx
    · refine ⟨hx, g1, rest q hq hx g1 fun h => ?_⟩
      have := h.2
      simp only [wantB, Bool.and_eq_true] at this
      rw [g2] at this; cases this.1
    · exact (notmade q hq hx).elim
  refine { mle := hi, cut := ?_, closed := closed_add Tc I hrd, hr := he.hr, dfs := ?_, tm := t1, tmIn := t2, tmOut := t3, pk := fun q hq hx hg => (pkk q hq hx hg).2.2, pkdis := ?_, free := fun j hj hx => cr.free j hj (fun h => hx (.inl h)),
           room := cr.room, base0 := I.base0, le := cr.le, size := cr.size, keep := cr.keep, own := cr.own, anyAt := cr.anyAt, fresh := cr.fresh, glob := cr.glob, env := I.env, facts := cr.facts, logs := ?_, outside := ?_ }
  · intro k hk hka
    constructor
    · intro h
      by_cases e : k = i
      · exact .inr e
      · exact .inl (act_row Tc I.closed hi ha (ready_mask Tc I hrd) k (by omega) hka)
    · rintro (h | h)
      · rcases Nat.lt_trichotomy k i with c | c | c
        · omega
        · omega
        · exact absurd (act_row Tc I.closed hk hka (fun j hj => I.closed k j hk h hj) i c ha) hrd.2.1
      · omega
  · rw [put_defers]; exact hds
  · intro p hp q hq hx hx' hg hg' hne L L' e e'
    obtain ⟨x1, g1, _⟩ := pkk p hp hx hg
    obtain ⟨x2, g2, _⟩ := pkk q hq hx' hg'
    obtain ⟨M, f1, _⟩ := I.pk p hp x1 g1
    obtain ⟨M', f2, _⟩ := I.pk q hq x2 g2
    have e1 := cr.le1.1 _ _ f1
    have e2 := cr.le1.1 _ _ f2
    rw [e] at e1; rw [e'] at e2
    cases e1; cases e2
    exact I.pkdis p hp q hq x1 x2 g1 g2 hne L L' f1 f2
  · intro k hk hx hka
    rcases hx with hx | hx
    · exact I.logs k hk hx hka
    · subst hx; exact he'.log
  · intro j hj
    rcases hj with hj | hj
    · exact I.outside j hj
    · omega

/- One more make. -/
theorem inv_make (hna : ¬ IsAct Dn i) {mk : Mk} (hpk : (Dn (i + 1)).pocket = (i, mk) :: (Dn i).pocket) (hres : i < res) {Y : Obj} {sz : Nat} (hY : ∀ ρ', ρ.le ρ' → PockOK ρ' (w.heap.push Y) ⟨w.heap.size, 0, sz⟩ mk) {x : Value}
    (hx : VR (ρ.add (base + i) ⟨w.heap.size, 0, sz⟩) (mk.mv.at (base + i)) x) (hput : (Dn (i + 1)).tmps = putD nt (Dn i).tmps o.dst (mk.mv.at (base + i))) :
    RInv P E nt N base res ops ms Dn ρ0 S0 h0 (fun k => X k ∨ k = i) m (ρ.add (base + i) ⟨w.heap.size, 0, sz⟩) { w with heap := w.heap.push Y } (a.put o.dst x) (putD nt tX o.dst (mk.mv.at (base + i))) := by
  have hi := ready_lt Tc I hrd
  have hfree := I.free i hres hrd.2.1
  have hle : ρ.le (ρ.add (base + i) ⟨w.heap.size, 0, sz⟩) := Rho.add_le hfree
  have hroom := I.room
  obtain ⟨t1, t2, t3⟩ := tmps_add Tc I hrd hle hx hput (a0 := a) rfl
  have old : ∀ {k L}, ρ.loc k = some L → (ρ.add (base + i) ⟨w.heap.size, 0, sz⟩).loc k = some L := fun e => hle.1 _ _ e
  have oldback : ∀ {k L o'}, (Dn m).S.heap.get k = some o' → (ρ.add (base + i) ⟨w.heap.size, 0, sz⟩).loc k = some L → ρ.loc k = some L := by
    intro k L o' e l
    obtain ⟨M, f1, _⟩ := I.hr.objs k o' e
    have := old f1
    rw [l] at this; cases this; exact f1
  have push : ∀ {k}, k < w.heap.size → (w.heap.push Y)[k]? = w.heap[k]? := fun hk => push_get hk
  have hrN : HR (ρ.add (base + i) ⟨w.heap.size, 0, sz⟩) (Dn m).S (w.heap.push Y) := by
    refine ⟨?_, ?_, ?_, ?_, I.hr.grp, I.hr.gnext⟩
    · intro k o' e
      obtain ⟨L, f1, f2⟩ := I.hr.objs k o' e
      exact ⟨L, old f1, f2.mono hle (push f2.lt) fun r M hM => .inl (push (I.hr.bound r M hM))⟩
    · intro k k' o1 o2 L L' e e' l l' hb
      exact I.hr.inj k k' o1 o2 L L' e e' (oldback e l) (oldback e' l') hb
    · intro k hk
      rw [Rho.add_ne (by omega)]; exact I.hr.next k hk
    · intro k L e
      by_cases ck : k = base + i
      · subst ck; rw [Rho.add_at] at e; cases e; simp
      · rw [Rho.add_ne ck] at e; have := I.hr.bound k L e; simp; omega
  have awayold : ∀ {L : Loc}, Away ρ (Dn m).S L → Away (ρ.add (base + i) ⟨w.heap.size, 0, sz⟩) (Dn m).S L := fun ha k o' L' e l => ha k o' L' e (oldback e l)
  have made : ∀ q ∈ (Dn ops.size).pocket, q.1 = i → q = (i, mk) := by
    intro q hq hqi
    obtain ⟨h1, h2⟩ := made_at Tc hi hq hqi
    rw [hpk] at h1
    exact (List.mem_cons.1 h1).resolve_right h2
  refine { mle := I.mle, cut := ?_, closed := closed_add Tc I hrd, hr := hrN, dfs := ?_, tm := t1, tmIn := t2, tmOut := t3, pk := ?_, pkdis := ?_, free := ?_,
           room := I.room, base0 := I.base0, le := I.le.trans hle, size := ?_, keep := ?_, own := ?_, anyAt := ?_, fresh := ?_, glob := I.glob.mono hle, env := I.env, facts := I.facts, logs := ?_, outside := ?_ }
  · intro k hk ha
    rw [I.cut k hk ha]
    exact ⟨.inl, fun h => h.resolve_right fun e => hna (e ▸ ha)⟩
  · rw [put_defers]; exact I.dfs.mono hle
  · intro q hq hxq hg
    rcases hxq with hxq | hxq
    · obtain ⟨L, e1, e2, e3, e4⟩ := I.pk q hq hxq hg
      exact ⟨L, old e1, e2.mono hle (push (I.hr.bound _ _ e1)), awayold e3, e4⟩
    · have := made q hq hxq
      subst this
      refine ⟨⟨w.heap.size, 0, sz⟩, Rho.add_at, hY _ hle, ?_, I.size⟩
      intro k o' L' e l
      have := I.hr.bound _ _ (oldback e l)
      show L'.blk ≠ w.heap.size
      omega
  · intro p hp q hq hx1 hx2 hg1 hg2 hne L L' e e'
    have low : ∀ r ∈ (Dn ops.size).pocket, X r.1 → bit (Dn m).got r.1 = false → ∀ M, (ρ.add (base + i) ⟨w.heap.size, 0, sz⟩).loc (base + r.1) = some M → ρ.loc (base + r.1) = some M := by
      intro r hr hxr hgr M eM
      obtain ⟨M', f1, _⟩ := I.pk r hr hxr hgr
      have := old f1
      rw [eM] at this; cases this; exact f1
    rcases hx1 with hx1 | hx1
    · have l1 := low p hp hx1 hg1 L e
      have b1 := I.hr.bound _ _ l1
      rcases hx2 with hx2 | hx2
      · exact I.pkdis p hp q hq hx1 hx2 hg1 hg2 hne L L' l1 (low q hq hx2 hg2 L' e')
      · rw [hx2, Rho.add_at] at e'; cases e'
        show L.blk ≠ w.heap.size
        omega
    · rw [hx1, Rho.add_at] at e; cases e
      rcases hx2 with hx2 | hx2
      · have b2 := I.hr.bound _ _ (low q hq hx2 hg2 L' e')
        show w.heap.size ≠ L'.blk
        omega
      · omega
  · intro j hj hnx
    rw [Rho.add_ne (by intro e; exact hnx (.inr (by omega)))]
    exact I.free j hj fun h => hnx (.inl h)
  · have := I.size; simp; omega
  · intro k hk hno
    show (w.heap.push Y)[k]? = _
    rw [push (Nat.lt_of_lt_of_le hk I.size)]; exact I.keep k hk hno
  · rintro k hk ⟨b', o', L, e1, e2, e3, e4⟩
    exact I.own k hk ⟨b', o', L, e1, e2, oldback e1 e3, e4⟩
  · rintro k hk ⟨b', o', L, e1, e3, e4⟩
    exact I.anyAt k hk ⟨b', o', L, e1, oldback e1 e3, e4⟩
  · intro k L e
    by_cases ck : k = base + i
    · subst ck; have := I.base0; exact .inr (by omega)
    · rw [Rho.add_ne ck] at e; exact I.fresh k L e
  · intro k hk hxk ha
    rcases hxk with hxk | hxk
    · exact I.logs k hk hxk ha
    · exact absurd ha (hxk ▸ hna)
  · intro j hj
    rcases hj with hj | hj
    · exact I.outside j hj
    · omega

end
end Go.Ev

/- A verified evaluator. Part S45: drawn orders. -/
namespace Go.Ev

section
variable {P : Program} {E : Env} {nt : Nat} {N : Nest} {base res : Nat} {ops : Array Oper} {ms : List Nat} {Dn : Nat → Draw} {ρ0 : Rho} {S0 : St} {h0 : Array Obj}
  (Tc : RTrace E nt N base res ops ms Dn) {X : Nat → Prop} {m : Nat} {ρ : Rho} {w : World} {a : Act} {tX : T AV} (I : RInv P E nt N base res ops ms Dn ρ0 S0 h0 X m ρ w a tX)
include Tc I

variable {i : Nat} {o : Oper} (hrd : Ready ops X i o)
include hrd

/- The way of the check on a quiet operation comes to where it is run. -/
theorem quiet_reach {q : Quiet} (hqi : q.i = i) (hqm : q.mask = ms.getD i 0) : ∀ (d : Nat) (m' : Nat), m' = m + d → m' ≤ ops.size → quietOk E base ms (Dn ops.size).pocket q (Dn m').hist (Dn m').S (Dn m').got = .ok () →
    quietTry E base (Dn ops.size).pocket q (Dn m).S (Dn m).got = .ok () := by
  intro d
  induction d with
  | zero =>
    intro m' hm' hle h
    have : m' = m := by omega
    subst this
    cases hh : (Dn m').hist with
    | nil => rw [hh] at h; exact h
    | cons x xs =>
      rw [hh] at h
      unfold quietOk at h
      obtain ⟨u, h1, _⟩ := R.bind_ok h
      have hx : IsAct Dn x.i ∧ x.i < m' := by
        -- the last act
        have hl : (Dn m').last = some x.i := by
          have key : ∀ k, k ≤ ops.size → ∀ x xs, (Dn k).hist = x :: xs → (Dn k).last = some x.i := by
            intro k
            induction k with
            | zero => intro _ x xs e; rw [Tc.hist0] at e; cases e
            | succ k ih =>
              intro hk x xs e
              by_cases hak : IsAct Dn k
              · obtain ⟨_, g2, g3, _⟩ := act_is Tc (by omega) hak
                rw [g3] at e; cases e; exact g2
              · obtain ⟨_, _, _, g4, g5⟩ := nonact Tc (by omega) hak
                rw [g5] at e; rw [g4]; exact ih (by omega) x xs e
          exact key m' hle x xs hh
        have := last_is Tc hle
        rw [hl] at this
        exact ⟨this.2.1, this.1⟩
      have hxx : X x.i := (I.cut x.i (by omega) hx.1).1 hx.2
      have hb : bit (ms.getD x.i 0) q.i = false := by
        cases hq : bit (ms.getD x.i 0) q.i with
        | false => rfl
        | true => rw [hqi] at hq; exact absurd (I.closed x.i i (by omega) hxx hq) hrd.2.1
      rw [hb] at h1
      exact h1
  | succ d ih =>
    intro m' hm' hle h
    obtain ⟨k, rfl⟩ : ∃ k, m' = k + 1 := ⟨m' - 1, by omega⟩
    by_cases hak : IsAct Dn k
    · obtain ⟨_, _, g3, _, _⟩ := act_is Tc (by omega) hak
      rw [g3] at h
      unfold quietOk at h
      obtain ⟨u, _, h2⟩ := R.bind_ok h
      have hb : bit q.mask k = false := by
        cases hq : bit q.mask k with
        | false => rfl
        | true =>
          rw [hqm] at hq
          have := (I.cut k (by omega) hak).2 (ready_mask Tc I hrd k hq)
          omega
      rw [hb] at h2
      exact ih k (by omega) (by omega) h2
    · obtain ⟨g1, _, g3, _, g5⟩ := nonact Tc (by omega) hak
      rw [g1, g3, g5] at h
      exact ih k (by omega) (by omega) h

theorem quiets_all : ∀ {D : Draw} {l : List Quiet}, quietsOk E base ms D l = .ok () → ∀ q ∈ l, quietOk E base ms D.pocket q D.hist D.S D.got = .ok () := by
  have _ := Tc
  have _ := I
  have _ := hrd
  intro D l
  induction l with
  | nil => intro _ q hq; cases hq
  | cons x l ih =>
    intro h q hq
    obtain ⟨u, h1, h2⟩ := R.bind_ok (show (quietOk E base ms D.pocket x D.hist D.S D.got).bind _ = _ from h)
    rcases List.mem_cons.1 hq with e | e
    · subst e; exact h1
    · exact ih h2 q e

theorem quiet_kept {q : Quiet} {k k' : Nat} (hk : k ≤ k') (hk' : k' ≤ ops.size) (hq : q ∈ (Dn k).quiets) : q ∈ (Dn k').quiets := by
  have _ := I
  have _ := hrd
  induction k' with
  | zero => have : k = 0 := by omega
            subst this; exact hq
  | succ n ih =>
    by_cases e : k = n + 1
    · subst e; exact hq
    · have h1 := ih (by omega) (by omega)
      obtain ⟨o', ho'⟩ := opAt Tc (show n < ops.size by omega)
      have hs := Tc.steps n o' ho'
      generalize hD : Dn (n + 1) = D' at hs ⊢
      cases hs with
      | quiet => exact List.mem_cons_of_mem _ h1
      | acts hw hl he ha =>
        obtain ⟨v, ds, S', e3, _⟩ := actNext_ok ha
        subst e3
        exact h1
      | _ => exact h1

/- ONE STEP OF A DRAWN ORDER. -/
theorem sim_step (hN : NestOK P E N) (hquiet : allQuiet E base ms (Dn ops.size) = .ok ()) {b : Frame} (hR : PlainOps b ops) {rest : List Nat} {items : List Item} {cs : List Frame} :
    ∃ m' ρ' w' a' tX', Steps P (lone (b.atR a (.inRegion ops (i :: rest) :: items)) cs w) (lone (b.atR a' (.inRegion ops rest :: items)) cs w') ∧ SameOs w w' ∧
      RInv P E nt N base res ops ms Dn ρ0 S0 h0 (fun k => X k ∨ k = i) m' ρ' w' a' tX' := by
  have hi := ready_lt Tc I hrd
  have ho := hrd.1
  have hwant := ready_wanted Tc I hrd
  have hs := Tc.steps i o ho
  have hevO := ready_evO Tc I hrd
  have C := I_ctx Tc I
  have hea := hR.at ho a.eval
  have idle : Ext ρ (adopt base 0 (Dn m).got [] (Dn m).S) w.heap ρ (adopt base 0 (Dn m).got [] (Dn m).S) w.heap := Ext.refl I.hr
  generalize hD : Dn (i + 1) = D' at hs
  cases hs with
  | skip hw =>
    have hna : ¬ IsAct Dn i := by unfold IsAct; rw [hD]; exact Nat.lt_irrefl _
    obtain ⟨cr, hr', pk'⟩ := carry_same Tc I (come_none Tc I hrd) idle
    have hstep := stepR_op_skip (P := P) (b := b) (a := a) (k := items) (cs := cs) (w := w) (ops := ops) (i := i) (rest := rest) (by rw [ho]; simp [hwant, hw])
    rw [ho] at hstep
    exact ⟨m, ρ, w, _, _, .one hstep, ⟨rfl, rfl, rfl⟩, inv_value Tc I hrd hna (by rw [hD]) cr hr' pk' (.tup .nil) (by rw [hD]; rfl)⟩
  | pure hw hk he =>
    rename_i v S1
    have hna : ¬ IsAct Dn i := by unfold IsAct; rw [hD]; exact Nat.lt_irrefl _
    have he' : evOp E tX (Dn m).S o.op = .ok (.val v (Dn m).S) := by rw [evOp_congr hevO]; exact pure_any hk he
    obtain ⟨ρ', w', c, e1, e2, e3, hso⟩ := val_step (b := b) (rest := rest) (items := items) (cs := cs) (evOp_ok C he') ho (by rw [hwant, hw]) hea
    obtain ⟨cr, hr', pk'⟩ := carry_same (want := 0) (ps := []) Tc I (come_none Tc I hrd) e1
    exact ⟨m, ρ', w', _, _, .one e3, hso, inv_value Tc I hrd hna (by rw [hD]) cr hr' pk' e2 (by rw [hD])⟩
  | quiet hw hk he =>
    rename_i v S1
    have hna : ¬ IsAct Dn i := by unfold IsAct; rw [hD]; exact Nat.lt_irrefl _
    have hmem : (⟨o, i, ms.getD i 0, (Dn i).tmps, v⟩ : Quiet) ∈ (Dn ops.size).quiets :=
      quiet_kept Tc I hrd (show i + 1 ≤ ops.size from hi) (Nat.le_refl _) (by rw [hD]; exact List.mem_cons_self)
    -- where it is run
    have key : ∃ ps S2, MayCome Dn ops.size X (ms.getD i 0) ps ∧ evOp E (Dn i).tmps (adopt base (ms.getD i 0) (Dn m).got ps (Dn m).S) o.op = .ok (.val v S2) := by
      unfold allQuiet at hquiet
      cases hh : (Dn ops.size).hist with
      | nil =>
        have noact : ∀ k, k < ops.size → ¬ IsAct Dn k := by
          intro k hk hak
          have hl : ∀ d, k + 1 + d ≤ ops.size → 0 < (Dn (k + 1 + d)).hist.length := by
            intro d
            induction d with
            | zero => intro _; unfold IsAct at hak; simp only [Nat.add_zero]; omega
            | succ d ih =>
              intro hle
              have h1 := ih (by omega)
              by_cases hb : IsAct Dn (k + 1 + d)
              · unfold IsAct at hb
                rw [show k + 1 + (d + 1) = k + 1 + d + 1 by omega]; omega
              · have := (nonact Tc (show k + 1 + d < ops.size by omega) hb).2.2.2.2
                rw [show k + 1 + (d + 1) = k + 1 + d + 1 by omega, this]; exact h1
          have := hl (ops.size - (k + 1)) (by omega)
          rw [show k + 1 + (ops.size - (k + 1)) = ops.size by omega, hh] at this
          exact absurd this (Nat.lt_irrefl _)
        obtain ⟨c1, _, c3, _, _⟩ := cuts Tc (show i ≤ ops.size by omega) I.mle (fun k hk hak => absurd hak (noact k hk))
        exact ⟨(Dn i).pocket, S1, come_mask Tc I hrd, by rw [c1, c3]; exact he⟩
      | cons x xs =>
        rw [hh] at hquiet
        have h1 := quiets_all Tc I hrd hquiet _ hmem
        have h2 := quiet_reach Tc I hrd (q := ⟨o, i, ms.getD i 0, (Dn i).tmps, v⟩) rfl rfl (ops.size - m) ops.size (by have := I.mle; omega) (Nat.le_refl _) h1
        unfold quietTry at h2
        obtain ⟨nx, h3, h4⟩ := R.bind_ok h2
        split at h4
        · rename_i v' S2
          have := AV.same_eq (R.guard_ok h4)
          subst this
          exact ⟨(Dn ops.size).pocket, S2, come_all Tc I hrd, h3⟩
        · cases h4
    obtain ⟨ps, S2, hps, hev⟩ := key
    have hS2 := quiet_same hk hev
    subst hS2
    have hev' := hev
    rw [← evOp_congr hevO] at hev'
    have hr1 := (come_hr Tc I hps).1
    have C1 : Ctx P E ρ (adopt base (ms.getD i 0) (Dn m).got ps (Dn m).S) w tX nt a := ⟨I.env, I.glob, I.tm, hr1, I.facts⟩
    obtain ⟨ρ', w', c, e1, e2, e3, hso⟩ := val_step (b := b) (rest := rest) (items := items) (cs := cs) (evOp_ok C1 hev') ho (by rw [hwant, hw]) hea
    obtain ⟨cr, hr', pk'⟩ := carry_same Tc I hps e1
    exact ⟨m, ρ', w', _, _, .one e3, hso, inv_value Tc I hrd hna (by rw [hD]) cr hr' pk' e2 (by rw [hD])⟩
  | makes hw hk he hr =>
    rename_i mk
    have hna : ¬ IsAct Dn i := by unfold IsAct; rw [hD]; exact Nat.lt_irrefl _
    have he' : evMake E tX o.op = .ok mk := by rw [evMake_congr hevO]; exact he
    obtain ⟨Y, sz, x, h2, h1, h3⟩ := make_ok C he'
    have hstep := step_value (P := P) (b := b) (k := items) (cs := cs) (rest := rest) ho (by rw [hwant, hw]) hea h2
    exact ⟨m, _, _, _, _, .one hstep, ⟨rfl, rfl, rfl⟩, inv_make Tc I hrd hna (by rw [hD]) hr h1 (h3 _ _ sz Rho.add_at) (by rw [hD])⟩
  | acts hw hl he ha =>
    rename_i nx
    obtain ⟨v, ds, S', e1, hcase⟩ := actNext_ok ha
    have hact : IsAct Dn i := by unfold IsAct; rw [hD, e1]; exact Nat.lt_succ_self _
    obtain ⟨c1, c2, c3, c4, c5⟩ := act_cut Tc I hrd hact
    have hpk : (Dn (i + 1)).pocket = (Dn i).pocket := by rw [hD, e1]
    have hgot : (Dn (i + 1)).got = Nat.lor (Dn i).got (ms.getD i 0) := by rw [hD, e1]
    have hput : (Dn (i + 1)).tmps = putD nt (Dn i).tmps o.dst v := by rw [hD, e1]
    have hSS : (Dn (i + 1)).S = S' := by rw [hD, e1]
    have hdd : (Dn (i + 1)).ds = ds := by rw [hD, e1]
    have hr1 : HR ρ (adopt base (ms.getD i 0) (Dn i).got (Dn i).pocket (Dn i).S) w.heap := by
      have := (come_hr Tc I (come_mask Tc I hrd)).1
      rw [c1, c3] at this; exact this
    have C1 : Ctx P E ρ (adopt base (ms.getD i 0) (Dn i).got (Dn i).pocket (Dn i).S) w tX nt a := ⟨I.env, I.glob, I.tm, hr1, I.facts⟩
    have he' : evOp E tX (adopt base (ms.getD i 0) (Dn i).got (Dn i).pocket (Dn i).S) o.op = .ok nx := by rw [evOp_congr hevO]; exact he
    have hnx := evOp_ok C1 he'
    have hwb : Region.wanted o (yielded ops a.tmps) = true := by rw [hwant, hw]
    have hdfs : DefsR ρ (Dn i).ds a.defers := by rw [← c2]; exact I.dfs
    rcases hcase with ⟨rfl, hds⟩ | ⟨f, args, u, rfl, hcall, hds⟩ | ⟨d, rfl, rfl, hds, hS⟩
    · obtain ⟨ρ', w', c, f1, f2, f3, hso⟩ := val_step (b := b) (rest := rest) (items := items) (cs := cs) hnx ho hwb hea
      exact ⟨i + 1, ρ', w', _, _, .one f3, hso, inv_act Tc I hrd hact hpk hgot (by rw [hSS]; exact f1) rfl (by rw [hdd, hds]; exact hdfs.mono f1.le) f2 hput⟩
    · generalize hrr : (execOp a.eval o).run P w = rr at hnx
      cases hnx with
      | enter hargs =>
        obtain ⟨fn2, hf2, hE2⟩ := hN.call f args .normal .run _ _ ρ w _ (b.atR a (.inRegion ops (i :: rest) :: items) :: cs) hcall I.env I.glob hr1 I.facts hargs .normal
        obtain ⟨ρ1, w1, fr, cs1, hst, hE, hend, hto, _, hso⟩ := hE2.plain rfl
        cases hto
        have s1 := Steps.head (step_enter (k := items) (cs := cs) (rest := rest) ho hwb hea hrr) hst
        obtain ⟨q1, q2, q3, m1, c, m2, m3⟩ := hend
        have hleave : fr.leaving P w1 (.returned c) := ⟨m1, q3, q2, fn2, by rw [q1]; exact hf2, m2⟩
        have s2 := s1.trans (.one (step_leave_returned hleave))
        have hfin : (b.atR a (.inRegion ops (i :: rest) :: items)).finish c = b.atR (a.put o.dst c) (.inRegion ops rest :: items) := by rw [Frame.finish_atR, ho]; rfl
        rw [hfin] at s2
        exact ⟨i + 1, ρ1, w1, _, _, s2, hso, inv_act Tc I hrd hact hpk hgot (by rw [hSS]; exact hE) rfl (by rw [hdd, hds]; exact hdfs.mono hE.le) m3 hput⟩
    · generalize hrr : (execOp a.eval o).run P w = rr at hnx
      cases hnx with
      | defer hdf =>
        rename_i cd
        have hstep := step_deferred (P := P) (b := b) (k := items) (cs := cs) (rest := rest) ho hwb hea hrr
        exact ⟨i + 1, ρ, w, _, _, .one hstep, ⟨rfl, rfl, rfl⟩, inv_act Tc I hrd hact hpk hgot (by rw [hSS, hS]; exact Ext.refl hr1) (a0 := { a with defers := cd :: a.defers }) rfl (by rw [hdd, hds]; exact .cons hdf hdfs) (.tup .nil) hput⟩

end
end Go.Ev

/- A verified evaluator. Part S46: regions that draw their order are sound; calls are. -/
namespace Go.Ev

theorem St.reserve_eq (S : St) (n : Nat) : S.reserve n = ⟨S.heap, S.next + n, S.grp, S.log⟩ := by
  obtain ⟨h, m, g, l⟩ := S
  show force (m + n) (fun m => (⟨h, m, g, l⟩ : St)) = _
  rw [force_eq]

section
variable {P : Program} {E : Env} {nt : Nat} {N : Nest} {base res : Nat} {ops : Array Oper} {ms : List Nat} {Dn : Nat → Draw} {ρ0 : Rho} {S0 : St} {h0 : Array Obj}
  (Tc : RTrace E nt N base res ops ms Dn)
include Tc

theorem log_all {X : Nat → Prop} {m : Nat} {ρ : Rho} {w : World} {a : Act} {tX : T AV} (I : RInv P E nt N base res ops ms Dn ρ0 S0 h0 X m ρ w a tX) (hall : ∀ j, j < ops.size → X j) :
    ∀ k, k ≤ ops.size → LogOK (Dn 0).S (Dn k).S := by
  intro k
  induction k with
  | zero => intro _; exact LogOK.refl _
  | succ k ih =>
    intro hk
    have h1 := ih (by omega)
    by_cases ha : IsAct Dn k
    · refine h1.trans (LogOK.trans ?_ (I.logs k (by omega) (hall k (by omega)) ha))
      exact (adopt_next (base := base) (want := ms.getD k 0) (got := (Dn k).got) (Dn k).pocket (Dn k).S).2
    · rw [(nonact Tc (by omega) ha).1]; exact h1

/- All is done. -/
theorem sim_end {X : Nat → Prop} {m : Nat} {ρ : Rho} {w : World} {a : Act} {tX : T AV} (I : RInv P E nt N base res ops ms Dn ρ0 S0 h0 X m ρ w a tX) (hall : ∀ j, j < ops.size → X j) (hS0 : (Dn 0).S = S0.reserve res) (ones : Nat) :
    Ctx P E ρ (adopt base ones (Dn ops.size).got (Dn ops.size).pocket (Dn ops.size).S) w (Dn ops.size).tmps nt a ∧ DefsR ρ (Dn ops.size).ds a.defers ∧
    Ext ρ0 S0 h0 ρ (adopt base ones (Dn ops.size).got (Dn ops.size).pocket (Dn ops.size).S) w.heap := by
  obtain ⟨c1, c2, c3, _, _⟩ := cuts Tc (Nat.le_refl ops.size) I.mle (fun k hk hka => ⟨fun _ => (I.cut k hk hka).2 (hall k hk), fun _ => hk⟩)
  have hps : MayCome Dn ops.size X ones (Dn ops.size).pocket := ⟨(pocket_is Tc (Nat.le_refl _)).1, fun _ hp => hp, fun p hp _ => hall _ ((pocket_is Tc (Nat.le_refl _)).2 p hp).1⟩
  have hr := (come_hr Tc I hps).1
  obtain ⟨cr, _⟩ := carry Tc I hps (Ext.refl hr)
  rw [c1, c3] at hr cr
  have htm : ∀ d, tX.get d = (Dn ops.size).tmps.get d := by
    intro d
    by_cases hex : ∃ j o, j < ops.size ∧ ops[j]? = some o ∧ o.dst = some d ∧ d < nt
    · obtain ⟨j, o, hj, ho, hd, hn⟩ := hex
      rw [I.tmIn j o d (hall j hj) ho hd hn]
      exact (tmps_in Tc hj (Nat.le_refl _) ho hd).symm
    · rw [I.tmOut d fun j o hj ho hd hn => hex ⟨j, o, I.outside j hj, ho, hd, hn⟩]
      exact (tmps_out Tc (Nat.le_refl _) fun j o hj ho hd hn => hex ⟨j, o, hj, ho, hd, hn⟩).symm
  have hlog := log_all Tc I hall ops.size (Nat.le_refl _)
  obtain ⟨hn1, hl1⟩ := adopt_next (base := base) (want := ones) (got := (Dn ops.size).got) (Dn ops.size).pocket (Dn ops.size).S
  have hroom := I.room
  rw [c1] at hroom
  refine ⟨⟨I.env, I.glob, ⟨I.tm.size, fun d => by rw [← htm d]; exact I.tm.vals d⟩, hr, I.facts⟩, by rw [← c2]; exact I.dfs, ⟨cr.le, hr, cr.size, cr.keep, cr.own, ?_, ?_, cr.fresh, cr.anyAt⟩⟩
  · have := I.base0; omega
  · have h1 : LogOK S0 (Dn 0).S := by rw [hS0, St.reserve_eq]; exact LogOK.refl _
    exact (h1.trans hlog).trans hl1

/- From any set of what is done on. -/
theorem sim_all (hN : NestOK P E N) (hquiet : allQuiet E base ms (Dn ops.size) = .ok ()) {b : Frame} {fn : Func} (hR : PlainOps b ops) {items : List Item} {cs : List Frame} {k : K} (hk : KOK P E b fn nt k items) {u : AMode} {outs : List Out} {ones : Nat}
    (hout : k (Dn ops.size).tmps (Dn ops.size).ds u (adopt base ones (Dn ops.size).got (Dn ops.size).pocket (Dn ops.size).S) = .ok outs) (hcs : CsB ρ0 b u cs) (hS0 : (Dn 0).S = S0.reserve res) (w0 : World) (hw0 : w0.heap = h0) :
    ∀ (fuel tape : Nat) (listed : Array Bool) (X : Nat → Prop) (m : Nat) (ρ : Rho) (w : World) (a : Act) (tX : T AV), SameOs w0 w → listed.size = ops.size → (∀ j, j < ops.size → (X j ↔ listed.getD j false = true)) →
      ((List.range ops.size).filter fun j => !(listed.getD j false)).length ≤ fuel → RInv P E nt N base res ops ms Dn ρ0 S0 h0 X m ρ w a tX →
      ∃ o ∈ outs, Ends P b fn ρ0 S0 w0 cs o (lone (b.atR a (.inRegion ops (Region.linearise.go .any ops fuel tape listed []) :: items)) cs w) := by
  -- the end
  have fin : ∀ (X : Nat → Prop) (m : Nat) (ρ : Rho) (w : World) (a : Act) (tX : T AV), SameOs w0 w → (∀ j, j < ops.size → X j) → RInv P E nt N base res ops ms Dn ρ0 S0 h0 X m ρ w a tX →
      ∃ o ∈ outs, Ends P b fn ρ0 S0 w0 cs o (lone (b.atR a (.inRegion ops [] :: items)) cs w) := by
    intro X m ρ w a tX hso hall I
    obtain ⟨C, hd, he⟩ := sim_end Tc I hall hS0 ones
    obtain ⟨o, h1, h2⟩ := hk ρ _ w _ a _ u cs outs C hd (hcs.mono he.le) hout
    rw [← hw0] at he
    exact ⟨o, h1, (h2.of_steps (.one stepR_region_end)).of_ext he hso hcs.refl⟩
  intro fuel
  induction fuel with
  | zero =>
    intro tape listed X m ρ w a tX hso hsz hX hlen I
    have hnil : ((List.range ops.size).filter fun j => !(listed.getD j false)) = [] := List.length_eq_zero_iff.1 (by omega)
    have hall : ∀ j, j < ops.size → X j := by
      intro j hj
      have := List.filter_eq_nil_iff.1 hnil j (List.mem_range.2 hj)
      rw [hX j hj]; simpa using this
    exact fin X m ρ w a tX hso hall I
  | succ fuel ih =>
    intro tape listed X m ρ w a tX hso hsz hX hlen I
    have hget : ∀ j, j < ops.size → listed.getD j true = listed.getD j false := by
      intro j hj
      rw [Array.getD_eq_getD_getElem?, Array.getD_eq_getD_getElem?, Array.getElem?_eq_getElem (by omega)]; rfl
    simp only [Region.linearise.go]
    generalize hrs : ((List.range ops.size).filter fun i => !listed.getD i true && ((ops[i]?).map (·.after.all fun e => !Region.binds .any e || listed.getD e.on false)).getD false) = rs
    cases hi : rs[tape % rs.length]? with
    | none =>
      have hnil : rs = [] := by
        cases rs with
        | nil => rfl
        | cons x xs =>
          have hlt : tape % (x :: xs).length < (x :: xs).length := Nat.mod_lt _ (by simp)
          rw [List.getElem?_eq_getElem hlt] at hi; cases hi
      rw [hnil] at hrs
      have hno := List.filter_eq_nil_iff.1 hrs
      have hall : ∀ j, j < ops.size → X j := by
        intro j
        induction j using Nat.strongRecOn with
        | _ j ihj =>
          intro hj
          obtain ⟨o, ho⟩ := opAt Tc hj
          have := hno j (List.mem_range.2 hj)
          rw [hX j hj]
          cases hq : listed.getD j false with
          | true => rfl
          | false =>
            exfalso
            apply this
            rw [hget j hj, hq, ho]
            simp only [Bool.not_false, Bool.true_and, Option.map_some, Option.getD_some]
            rw [Array.all_eq_true_iff_forall_mem]
            intro e he
            by_cases hb : Region.binds .any e = true
            · have hlt := Tc.tidy.back j o (by rw [Array.getElem?_toList]; exact ho) e (Array.mem_toList_iff.2 he) hb
              have := ihj e.on hlt (by omega)
              rw [hX e.on (by omega)] at this
              rw [hb, this]; rfl
            · simp [hb]
      simp only [List.reverse_nil]
      exact fin X m ρ w a tX hso hall I
    | some i =>
      simp only
      rw [linearise_go_acc, List.reverse_singleton, List.singleton_append]
      have hmem : i ∈ rs := List.mem_of_getElem? hi
      rw [← hrs, List.mem_filter] at hmem
      obtain ⟨hr1, hr2⟩ := hmem
      have hin := List.mem_range.1 hr1
      simp only [Bool.and_eq_true, Bool.not_eq_true'] at hr2
      obtain ⟨hr2, hr3⟩ := hr2
      rw [hget i hin] at hr2
      obtain ⟨o, ho⟩ := opAt Tc hin
      rw [ho] at hr3
      simp only [Option.map_some, Option.getD_some, Array.all_eq_true_iff_forall_mem] at hr3
      have hrd : Ready ops X i o := by
        refine ⟨ho, ?_, ?_⟩
        · rw [hX i hin, hr2]; simp
        · intro e he hb
          have := hr3 e (Array.mem_toList_iff.1 he)
          have hlt := Tc.tidy.back i o (by rw [Array.getElem?_toList]; exact ho) e he hb
          rw [hX e.on (by omega)]
          rw [hb] at this; simpa using this
      obtain ⟨m', ρ', w', a', tX', hst, hso', I'⟩ := sim_step Tc I hrd hN hquiet (b := b) hR (rest := Region.linearise.go .any ops fuel (tape / rs.length) (listed.setIfInBounds i true) []) (items := items) (cs := cs)
      have hsetget : ∀ j, j < ops.size → (listed.setIfInBounds i true).getD j false = (decide (j = i) || listed.getD j false) := by
        intro j hj
        rw [Array.getD_eq_getD_getElem?, Array.getD_eq_getD_getElem?, Array.getElem?_setIfInBounds]
        by_cases c : i = j
        · subst c; rw [if_pos rfl, if_pos (by omega)]; simp
        · have hne : ¬ j = i := fun x => c x.symm
          rw [if_neg c]; simp [hne]
      obtain ⟨x, hx, hE⟩ := ih (tape / rs.length) (listed.setIfInBounds i true) (fun k => X k ∨ k = i) m' ρ' w' a' tX' (hso.trans hso') (by simpa using hsz) (fun j hj => by
          rw [hsetget j hj, hX j hj]
          simp only [Bool.or_eq_true, decide_eq_true_eq]
          exact Or.comm) (by
          have hff : ((List.range ops.size).filter fun j => !((listed.setIfInBounds i true).getD j false)) = ((List.range ops.size).filter fun j => !(listed.getD j false)).filter fun j => !(decide (j = i)) := by
            rw [List.filter_filter]
            apply List.filter_congr
            intro j hj
            rw [hsetget j (List.mem_range.1 hj)]
            simp
          rw [hff]
          have : (((List.range ops.size).filter fun j => !(listed.getD j false)).filter fun j => !(decide (j = i))).length < ((List.range ops.size).filter fun j => !(listed.getD j false)).length := by
            rw [List.length_filter_lt_length_iff_exists]
            exact ⟨i, List.mem_filter.2 ⟨hr1, by rw [hr2]; rfl⟩, by simp⟩
          omega) I'
      exact ⟨x, hx, hE.of_steps hst⟩

end

/- REGIONS THAT DRAW THEIR ORDER. -/
theorem draws_ok {P : Program} {E : Env} (b : Frame) (fn : Func) (nt : Nat) : DrawsOK P E b fn nt := by
  intro ops N k items hR hN hk ρ S w t a ds u cs outs tape C hd hcs h
  unfold runRD drawD at h
  cases htidy : tidy ops.toList (masks ops.toList []) with
  | false => rw [htidy] at h; cases h
  | true =>
    rw [htidy] at h
    simp only at h
    generalize hres : resOf ops.toList = res at h
    generalize hones : onesOf ops.toList = ones at h
    unfold evDraw at h
    split at h
    · cases h
    · rename_i D hD
      split at h
      · cases h
      · rename_i un hq
        obtain ⟨Dn, e1, e2, e3⟩ := drawAll_trace _ _ _ _ hD
        rw [Nat.zero_add, Array.length_toList] at e2
        have Tc : RTrace E nt N S.next res ops (masks ops.toList []) Dn := by
          refine ⟨tidy_ok htidy, fun i o j ho hb => masks_bit (by rw [Array.getElem?_toList]; exact ho) hb, fun i o ho => ?_, by rw [e1], by rw [e1], by rw [e1], by rw [e1]⟩
          have := e3 i o (by rw [Array.getElem?_toList]; exact ho)
          simpa using this
        subst e2
        have hS0 : (Dn 0).S = S.reserve res := by rw [e1]
        have hH : HR ρ (S.reserve res) w.heap := by
          rw [St.reserve_eq]
          refine ⟨C.hr.objs, C.hr.inj, fun k hk => C.hr.next k (by simp only at hk; omega), C.hr.bound, C.hr.grp, fun k o g e g1 => ?_⟩
          have := C.hr.gnext k o g e g1
          simp only; omega
        have I : RInv P E nt N S.next res ops (masks ops.toList []) Dn ρ S w.heap (fun _ => False) 0 ρ w a t := by
          refine { mle := Nat.zero_le _, cut := fun i _ _ => ⟨fun h => by omega, fun h => h.elim⟩, closed := fun _ _ _ h => h.elim, hr := by rw [hS0]; exact hH, dfs := by rw [e1]; exact hd, tm := C.tm, tmIn := fun _ _ _ h => h.elim,
                   tmOut := fun d _ => by rw [e1], pk := fun _ _ h => h.elim, pkdis := fun _ _ _ _ h => h.elim, free := fun j _ _ => C.hr.next _ (by omega), room := by rw [hS0, St.reserve_eq]; exact Nat.le_refl _, base0 := rfl,
                   le := ρ.le_refl, size := Nat.le_refl _, keep := fun _ _ _ => rfl, own := ?_, anyAt := ?_, fresh := fun _ _ e => .inl e, glob := C.glob, env := C.env, facts := C.facts, logs := fun _ _ h => h.elim, outside := fun _ h => h.elim }
          · rintro k _ ⟨b', o', L, q1, q2, q3, q4⟩
            rw [hS0, St.reserve_eq] at q1
            exact ⟨b', o', L, q1, q2, q3, q4⟩
          · rintro k _ ⟨b', o', L, q1, q3, q4⟩
            rw [hS0, St.reserve_eq] at q1
            exact ⟨b', o', L, q1, q3, q4⟩
        have hmix : P.follows .mixedOrders = true := C.env.mixed
        simp only [Region.schedule, hmix, Bool.true_or, if_true, Region.linearise]
        exact sim_all Tc hN hq hR hk h hcs hS0 w rfl ops.size tape (Array.replicate ops.size false) (fun _ => False) 0 ρ w a t (.refl w) (by simp)
          (fun j hj => ⟨fun h => h.elim, fun h => by rw [Array.getD_eq_getD_getElem?, Array.getElem?_eq_getElem (by simpa using hj)] at h; simp at h⟩)
          (Nat.le_trans (List.length_filter_le _ _) (by simp)) I

/- THE EVALUATOR IS SOUND. -/
theorem nest_sound {P : Program} {E : Env} (n : Nat) : NestOK P E (nest E n) := nest_ok draws_ok n

/- A call, in the words of the kit. -/
theorem calls_of_eval {P : Program} {E : Env} {n : Nat} {f : FuncId} {args : List AV} {S : St} {v : AV} {u : AMode} {S' : St} (h : callA E n f args S = .ok ⟨.ret v, u, S'⟩) (K : EnvOK P E) {ρ : Rho} {w : World} {cargs : Array Value}
    (hg : GlobalsAt ρ E.nglob) (H : HR ρ S w.heap) (F : FactsOK E ρ.sig) (ha : VRs ρ args cargs.toList) :
    Calls P f cargs w fun e w' => ∃ ρ' c, e = .returned c ∧ VR ρ' v c ∧ Ext ρ S w.heap ρ' S' w'.heap ∧ SameOs w w' := by
  intro cs
  obtain ⟨fn, hf, hE⟩ := (nest_sound n).call f args .normal .run S _ ρ w cargs cs h K hg H F ha .normal
  obtain ⟨ρ', w', fr, cs', hs, he, ⟨e1, e2, e3, m1, c, m2, m3⟩, hto, _, hso⟩ := hE.plain rfl
  cases hto
  exact ⟨.returned c, w', fr, ⟨ρ', c, rfl, m3, he, hso⟩, hs, e1, m1, e3, e2, fn, by rw [e1]; exact hf, m2⟩

end Go.Ev

/- A verified evaluator. Part S47: a program's tables. -/
namespace Go.Ev

/- What holds of every entry of a trie, its key said: key k of the part is key a k + b of the whole. -/
def T.AllK {α : Type} (p : Nat → α → Prop) : Nat → Nat → T α → Prop
  | _, _, .nil => True
  | a, b, .node v l r => (match v with | none => True | some x => p b x) ∧ T.AllK p (2 * a) (a + b) l ∧ T.AllK p (2 * a) (2 * a + b) r

theorem T.AllK.get {α : Type} {p : Nat → α → Prop} (f : Nat) : ∀ {k a b : Nat} {t : T α} {x : α}, k < f → T.AllK p a b t → getL (pathF f k) t = some x → p (a * k + b) x := by
  induction f with
  | zero => intro k a b t x h; omega
  | succ f ih =>
    intro k a b t x hk h e
    cases k with
    | zero =>
      have e' : getL .here t = some x := e
      cases t with
      | nil => cases e'
      | node v l r =>
        have e2 : v = some x := e'
        subst e2
        have := h.1
        simpa using this
    | succ m =>
      have em : ∀ n, Nat.mod n 2 = n % 2 := fun _ => rfl
      have ed : ∀ n, Nat.div n 2 = n / 2 := fun _ => rfl
      cases t with
      | nil => rw [getL_nil] at e; cases e
      | node v l r =>
        simp only [pathF, em] at e
        rcases Nat.mod_two_eq_zero_or_one m with c | c
        · rw [c] at e
          have e' : getL (pathF f (Nat.div m 2)) l = some x := e
          have := ih (by rw [ed]; omega) h.2.1 e'
          rw [ed] at this
          have hmm : 2 * a * (m / 2) + (a + b) = a * (m + 1) + b := by
            have h2 : m = 2 * (m / 2) := by omega
            generalize m / 2 = q at h2 ⊢
            subst h2
            rw [Nat.mul_add, Nat.mul_one, Nat.mul_comm 2 a, Nat.mul_assoc]; omega
          rw [hmm] at this; exact this
        · rw [c] at e
          have e' : getL (pathF f (Nat.div m 2)) r = some x := e
          have := ih (by rw [ed]; omega) h.2.2 e'
          rw [ed] at this
          have hmm : 2 * a * (m / 2) + (2 * a + b) = a * (m + 1) + b := by
            have h2 : m = 2 * (m / 2) + 1 := by omega
            generalize m / 2 = q at h2 ⊢
            subst h2
            rw [Nat.mul_add, Nat.mul_add, Nat.mul_one, Nat.mul_comm 2 a, Nat.mul_assoc]; omega
          rw [hmm] at this; exact this

theorem T.AllK.at {α : Type} {p : Nat → α → Prop} {t : T α} (h : T.AllK p 1 0 t) {k : Nat} {x : α} (e : t.get k = some x) : p k x := by
  have := T.AllK.get (Nat.succ k) (Nat.lt_succ_self k) h e
  simpa using this

def zeroFits (i : TI) : Bool := match i.zero with | some z => Nat.beq z.cells.length i.size | none => true

/- The structs' fields have rows. -/
def structsB (P : Program) : Bool :=
  (List.range P.types.size).all fun t => match P.underlying t with | some (.struct fs) => fs.toList.all fun f => (P.info? f.type).isSome | _ => true

theorem TIok.of_mk {P : Program} {t : TypeId} {i : TI} (hs : structsB P = true) (h : mkTI P t = some i) (hz : zeroFits i = true) (hlt : t < P.types.size) : TIok P t i := by
  unfold mkTI at h
  split at h
  · rename_i inf d hi hd
    cases h
    refine ⟨hd, ?_, ?_, ⟨inf, hi, rfl, rfl, ?_, ?_⟩⟩
    · cases d <;> rfl
    · intro fs hfs f hf
      have := List.all_eq_true.1 hs t (List.mem_range.2 hlt)
      rw [hd] at this
      have hfs' : d = .struct fs := hfs
      subst hfs'
      simp only at this
      have := List.all_eq_true.1 this f hf
      exact Option.isSome_iff_exists.1 this
    · intro z hzz
      simp only at hzz
      unfold zeroFits at hz
      simp only at hz
      rw [hzz] at hz
      simp only at hz
      refine ⟨Nat.eq_of_beq_eq_true hz, ?_⟩
      split at hzz
      · rename_i v hv
        split at hzz
        · rename_i a ha; cases hzz; exact ⟨v, hv, ha⟩
        · cases hzz
      · cases hzz
    · intro he
      simp only [Bool.and_eq_true] at he
      refine ⟨he.2, ?_⟩
      have h1 := he.1
      cases d <;> simp only at h1 ⊢
      · simp only [Bool.not_eq_true'] at h1; exact h1
      · simpa using h1
  · cases h

/- A function's row. -/
def FnRow (P : Program) (f : FuncId) (g : AFn) : Prop := P.funcs[f]? = some g.fn ∧ (match g.ext with | none => g.fn.body.isSome = true ∧ (g.fn.name == "runtime.NumGoroutine") = false | some e => ExtOK P f e)

theorem FnRow.mk0 {P : Program} {f : FuncId} {fn : Func} (h : P.funcs[f]? = some fn) (hb : fn.body.isSome = true) (hn : (fn.name == "runtime.NumGoroutine") = false) : FnRow P f ⟨fn, none⟩ := ⟨h, hb, hn⟩

theorem FnRow.mkIdx {P : Program} {f : FuncId} {fn : Func} (h : P.funcs[f]? = some fn) (hname : (fn.name == "runtime.NumGoroutine") = false) (hb : fn.body.isNone = true) (hn : Extern.findNext fn = none)
    (he : Extern.find fn = some Extern.BytealgIndexByte.indexByte) : FnRow P f ⟨fn, some .indexByte⟩ := by
  refine ⟨h, fun s c w _ _ => ⟨w, ?_, rfl, .refl w⟩⟩
  rw [run_callFunc_extern h hname hb hn he, run_indexByte_string]
  rfl

theorem FnRow.mkSame {P : Program} {f : FuncId} {fn : Func} (h : P.funcs[f]? = some fn) (hname : (fn.name == "runtime.NumGoroutine") = false) (hb : fn.body.isNone = true) (hn : Extern.findNext fn = none)
    (he : Extern.find fn = some Extern.AbiNoEscape.same) : FnRow P f ⟨fn, some .same⟩ := by
  refine ⟨h, fun x w => ?_⟩
  rw [run_callFunc_extern h hname hb hn he]
  rfl

/- A type's row. -/
def TyRow (P : Program) (n : Nat) (t : TypeId) (i : TI) : Prop := mkTI P t = some i ∧ zeroFits i = true ∧ Nat.blt t n = true

theorem EnvOK.of_tables {P : Program} {E : Env} {n : Nat} (hn : P.types.size = n) (hs : structsB P = true) (ht : T.AllK (TyRow P n) 1 0 E.types) (hf : T.AllK (FnRow P) 1 0 E.funcs) (hm : P.follows .mixedOrders = true) : EnvOK P E :=
  ⟨fun _ _ h => let ⟨a, b, c⟩ := ht.at h; TIok.of_mk hs a b (by rw [hn]; rw [Nat.blt_eq] at c; exact c), fun _ _ h => hf.at h, hm⟩

/- A heap of plain rows to begin with. -/
theorem FactsOK.none {E : Env} {σ : Nat → Int} (h : E.facts = []) : FactsOK E σ := by
  intro f hf; rw [h] at hf; cases hf

end Go.Ev

/- A verified evaluator. Part S48: calls that are known from elsewhere. -/
namespace Go.Ev
noncomputable section

/- A call that was evaluated apart: its start (with an empty log), and how it ends. -/
structure Known where
  f : FuncId
  args : List AV
  S : St
  o : Out

def T.sameBy {α : Type} (eq : α → α → Bool) : T α → T α → Bool
  | .nil, .nil => true
  | .node v l r, .node v' l' r' =>
    (match v, v' with
     | none, none => (match T.sameBy eq l l' with | true => T.sameBy eq r r' | false => false)
     | some a, some b => (match eq a b with | true => (match T.sameBy eq l l' with | true => T.sameBy eq r r' | false => false) | false => false)
     | _, _ => false)
  | _, _ => false

theorem T.sameBy_eq {α : Type} {eq : α → α → Bool} (heq : ∀ a b, eq a b = true → a = b) : ∀ {a b : T α}, T.sameBy eq a b = true → a = b
  | .nil, .nil, _ => rfl
  | .nil, .node .., h => by simp [T.sameBy] at h
  | .node .., .nil, h => by simp [T.sameBy] at h
  | .node v l r, .node v' l' r', h => by
    unfold T.sameBy at h
    have two : ∀ {x y : Bool}, (match x with | true => y | false => false) = true → x = true ∧ y = true := by
      intro x y h; cases x <;> simp_all
    cases v with
    | none =>
      cases v' with
      | none =>
        obtain ⟨h1, h2⟩ := two h
        rw [T.sameBy_eq heq h1, T.sameBy_eq heq h2]
      | some b => cases h
    | some a =>
      cases v' with
      | none => cases h
      | some b =>
        obtain ⟨h0, h⟩ := two h
        obtain ⟨h1, h2⟩ := two h
        rw [heq a b h0, T.sameBy_eq heq h1, T.sameBy_eq heq h2]

theorem eqNats_eq {a b : List Nat} (h : eqNats a b = true) : a = b := (eqNats_iff _ _).1 h

def St.same (a b : St) : Bool :=
  match a, b with
  | ⟨h, n, g, _⟩, ⟨h', n', g', _⟩ =>
    (match Nat.beq n n' with
     | true => (match T.sameBy eqNats g g' with | true => T.sameBy AObj.same h h' | false => false)
     | false => false)

def AMode.isRun : AMode → Bool
  | .run => true
  | _ => false

theorem St.same_eq' {a b : St} (h : St.same a b = true) (hl : a.log = b.log) : a = b := by
  obtain ⟨h1, n1, g1, l1⟩ := a
  obtain ⟨h2, n2, g2, l2⟩ := b
  simp only at hl
  subst hl
  simp only [St.same] at h
  split at h
  · rename_i e1
    split at h
    · rename_i e2
      rw [Nat.eq_of_beq_eq_true e1, T.sameBy_eq (fun a b => eqNats_eq) e2, T.sameBy_eq (fun a b => AObj.same_eq) h]
    · cases h
  · cases h

theorem AMode.isRun_eq {u : AMode} (h : AMode.isRun u = true) : u = .run := by
  cases u <;> first | rfl | cases h

theorem St.same_eq {a b : St} (h : St.same a b = true) (hb : b.log = []) : a.fresh = b := by
  obtain ⟨h1, n1, g1, l1⟩ := a
  obtain ⟨h2, n2, g2, l2⟩ := b
  cases hb
  simp only [St.same] at h
  split at h
  · rename_i e1
    split at h
    · rename_i e2
      rw [Nat.eq_of_beq_eq_true e1, T.sameBy_eq (fun a b => eqNats_eq) e2, T.sameBy_eq (fun a b => AObj.same_eq) h]
      rfl
    · cases h
  · cases h

def findK (f : FuncId) (args : List AV) (S : St) : List Known → Option Out
  | [] => none
  | k :: ks =>
    (match Nat.beq f k.f with
     | true => (match AV.sames args k.args with
       | true => (match St.same S k.S with | true => some k.o | false => findK f args S ks)
       | false => findK f args S ks)
     | false => findK f args S ks)

theorem findK_ok {f : FuncId} {args : List AV} {S : St} : ∀ {ks : List Known} {o : Out}, findK f args S ks = some o → ∃ k ∈ ks, f = k.f ∧ args = k.args ∧ St.same S k.S = true ∧ o = k.o := by
  intro ks
  induction ks with
  | nil => intro o h; cases h
  | cons k ks ih =>
    intro o h
    have rest : findK f args S ks = some o → ∃ k' ∈ k :: ks, f = k'.f ∧ args = k'.args ∧ St.same S k'.S = true ∧ o = k'.o := by
      intro h
      obtain ⟨k', h1, h2⟩ := ih h
      exact ⟨k', List.mem_cons_of_mem _ h1, h2⟩
    unfold findK at h
    split at h
    · rename_i e1
      split at h
      · rename_i e2
        split at h
        · rename_i e3
          cases h
          exact ⟨k, List.mem_cons_self, Nat.eq_of_beq_eq_true e1, AV.sames_eq e2, e3, rfl⟩
        · exact rest h
      · exact rest h
    · exact rest h

def withKnown (ks : List Known) (N : Nest) : Nest :=
  ⟨fun f args kind u S => match kind, u with
    | .normal, .run => (match findK f args S ks with | some o => .ok (o.under S) | none => N.call f args .normal .run S)
    | kind, u => N.call f args kind u S, N.round⟩

def nestK (ks : List Known) (E : Env) (n : Nat) : Nest := Nat.rec (motive := fun _ => Nest) nestZero (fun _ N => withKnown ks (nestNext E N)) n

def callK (ks : List Known) (E : Env) (depth : Nat) (f : FuncId) (args : List AV) (S : St) : R Out := (nestK ks E depth).call f args .normal .run S

def KnownOK (P : Program) (E : Env) (k : Known) : Prop :=
  k.S.log = [] ∧ ∀ (ρ : Rho) (w : World) (cargs : Array Value) (cs : List Frame), EnvOK P E → GlobalsAt ρ E.nglob → HR ρ k.S w.heap → FactsOK E ρ.sig →
    VRs ρ k.args cargs.toList → ∃ fn, P.funcs[k.f]? = some fn ∧ Ends P { (default : Frame) with fn := k.f, kind := .normal } fn ρ k.S w cs k.o (lone (Frame.enter P k.f cargs .normal) cs w)

theorem withKnown_ok {P : Program} {E : Env} {ks : List Known} {N : Nest} (hk : ∀ k ∈ ks, KnownOK P E k) (hN : NestOK P E N) : NestOK P E (withKnown ks N) := by
  refine ⟨?_, hN.round⟩
  intro f args kind u S o ρ w cargs cs h K hg H F ha hcs
  have gen : N.call f args kind u S = .ok o → ∃ fn, P.funcs[f]? = some fn ∧ Ends P { (default : Frame) with fn := f, kind := kind } fn ρ S w cs o (lone (Frame.enter P f cargs kind) cs w) :=
    fun h => hN.call f args kind u S o ρ w cargs cs h K hg H F ha hcs
  unfold withKnown at h
  simp only at h
  split at h
  · split at h
    · rename_i o' ho
      cases h
      obtain ⟨k, h1, h2, h3, h4, h5⟩ := findK_ok ho
      subst h2; subst h3; subst h5
      obtain ⟨hl, hk'⟩ := hk k h1
      have e := St.same_eq h4 hl
      obtain ⟨fn, q1, q2⟩ := hk' ρ w cargs cs K hg (by rw [← e]; exact H.fresh) F ha
      rw [← e] at q2
      exact ⟨fn, q1, q2.underLog⟩
    · exact gen h
  · exact gen h

theorem nestK_sound {P : Program} {E : Env} {ks : List Known} (hk : ∀ k ∈ ks, KnownOK P E k) (n : Nat) : NestOK P E (nestK ks E n) := by
  induction n with
  | zero =>
    constructor
    · intro f args kind u S o ρ w cargs cs h; cases h
    · intro l args S o ρ w cargs L c cs h; cases h
  | succ n ih => exact withKnown_ok hk (nestNext_ok draws_ok ih)

theorem calls_of_nest {P : Program} {E : Env} {N : Nest} (hN : NestOK P E N) {f : FuncId} {args : List AV} {S : St} {v : AV} {u : AMode} {S' : St} (h : N.call f args .normal .run S = .ok ⟨.ret v, u, S'⟩) (K : EnvOK P E) {ρ : Rho} {w : World} {cargs : Array Value}
    (hg : GlobalsAt ρ E.nglob) (H : HR ρ S w.heap) (F : FactsOK E ρ.sig) (ha : VRs ρ args cargs.toList) :
    Calls P f cargs w fun e w' => ∃ ρ' c, e = .returned c ∧ VR ρ' v c ∧ Ext ρ S w.heap ρ' S' w'.heap ∧ SameOs w w' := by
  intro cs
  obtain ⟨fn, hf, hE⟩ := hN.call f args .normal .run S _ ρ w cargs cs h K hg H F ha .normal
  obtain ⟨ρ', w', fr, cs', hs, he, ⟨e1, e2, e3, m1, c, m2, m3⟩, hto, _, hso⟩ := hE.plain rfl
  cases hto
  exact ⟨.returned c, w', fr, ⟨ρ', c, rfl, m3, he, hso⟩, hs, e1, m1, e3, e2, fn, by rw [e1]; exact hf, m2⟩

/- What another evaluation has found. -/
theorem KnownOK.of_nest {P : Program} {E E0 : Env} {N : Nest} (hN : NestOK P E0 N) (K0 : EnvOK P E0) (hng : E0.nglob = E.nglob) (hfacts : ∀ σ, FactsOK E σ → FactsOK E0 σ) {k : Known} (hl : k.S.log = []) (h : N.call k.f k.args .normal .run k.S = .ok k.o) : KnownOK P E k :=
  ⟨hl, fun ρ w cargs cs _ hg H F ha => hN.call k.f k.args .normal .run k.S k.o ρ w cargs cs h K0 (by rw [hng]; exact hg) H (hfacts _ F) ha .normal⟩

/- An end that is the one that was written down. -/
def Out.same (a b : Out) : Bool :=
  match a, b with
  | ⟨.ret v, u, S⟩, ⟨.ret v', u', S'⟩ =>
    (match AV.same v v' with
     | true => (match AMode.isRun u, AMode.isRun u' with | true, true => (match St.same S S' with | true => eqNats S.log S'.log | false => false) | _, _ => false)
     | false => false)
  | _, _ => false

def isOut (r : R Out) (o : Out) : Bool := match r with | .ok a => Out.same a o | .bad _ => false

theorem isOut_eq {r : R Out} {o : Out} (h : isOut r o = true) : r = .ok o := by
  unfold isOut at h
  split at h
  · rename_i a
    unfold Out.same at h
    split at h
    · split at h
      · rename_i hv
        split at h
        · rename_i hu hu'
          split at h
          · rename_i hS
            have e1 := AV.same_eq hv
            have e2 := eqNats_eq h
            have e3 := St.same_eq' hS e2
            have e4 := AMode.isRun_eq hu
            have e5 := AMode.isRun_eq hu'
            subst e1; subst e3; subst e4; subst e5; rfl
          · cases h
        · cases h
      · cases h
    · cases h
  · cases h
end
end Go.Ev
