/- A verified evaluator of closed calls of a translated program, part 3 of 4: what it says of a call holds of the model for every tape. Conditions: the tables are the program's (EnvOK), and the heap is as it is said to be (HR). -/
import Derived.Test.YtdkgbihgcfnlpaaGreatDoorEv2
import Derived.Lib.UnsafeStr
import Derived.Calls
/- A verified evaluator. Part S24: maps: looking up, storing, deleting. -/
namespace Go.Ev

def Obj.isCells : Obj → Bool
  | .cells _ _ _ => true
  | _ => false

theorem run_getObj {P : Program} {w : World} {r : Nat} {o : Obj} (h : w.heap[r]? = some o) (hn : Obj.isCells o = false := by rfl) : (getObj r).run P w = .ok o w := by
  simp only [getObj, Sem.run, h]
  cases o <;> first | rfl | (cases hn)

theorem checkKey_plain {P : Program} {w : World} {kt : TypeId} {i : TI} (hi : TIok P kt i) (hp : plainKey i.desc = true) (e : Bool) (k : Value) :
    (Instr.checkKey e 10000 kt k).run P w = .ok () w := by
  have hu := hi.run_und w
  unfold Instr.checkKey
  simp only [Sem.run_bind, hu, Result.andThen_ok]
  cases hd : i.desc <;> rw [hd] at hp <;> first | (simp [plainKey] at hp; done) | rfl

theorem EntsR.append {ρ : Rho} : ∀ {l1 : List AEnt} {c1 : List MapEntry} {l2 : List AEnt} {c2 : List MapEntry}, EntsR ρ l1 c1 → EntsR ρ l2 c2 → EntsR ρ (l1 ++ l2) (c1 ++ c2)
  | _, _, _, _, .nil, h => h
  | _, _, _, _, .cons x xs, h => .cons x (xs.append h)

theorem EntsR.length {ρ : Rho} : ∀ {l : List AEnt} {c : List MapEntry}, EntsR ρ l c → l.length = c.length
  | _, _, .nil => rfl
  | _, _, .cons _ xs => by simp [xs.length]

theorem EntsR.borns {ρ : Rho} : ∀ {l : List AEnt} {c : List MapEntry}, EntsR ρ l c → l.map (·.born) = c.map (·.born)
  | _, _, .nil => rfl
  | _, _, .cons x xs => by simp [x.born, xs.borns]

theorem keyTypes_ok {P : Program} {E : Env} (K : EnvOK P E) {t : TypeId} {ke : TypeId × TypeId} (h : keyTypes E t = .ok ke) : ∀ w : World, (underlying t).run P w = .ok (.map ke.1 ke.2) w := by
  intro w
  unfold keyTypes at h
  obtain ⟨i, h1, h2⟩ := R.bind_ok h
  have hu := (tiOf_ok K h1).run_und w
  split at h2
  · rename_i k e hd
    cases h2
    rw [hd] at hu; exact hu
  · cases h2

/- What an abstract map says of the real one. -/
theorem mapOf_ok {ρ : Rho} {S : St} {h : Array Obj} (H : HR ρ S h) {r : Nat} {L : Loc} {ec : List AEnt × Nat} (hm : mapOf S r = .ok ec) (hL : ρ.loc r = some L) :
    S.heap.get r = some (.map ec.1 ec.2) ∧ ∃ cs : Array MapEntry, h[L.blk]? = some (.map cs ec.2) ∧ MapR ρ ec.1 ec.2 cs.toList := by
  unfold mapOf at hm
  split at hm
  · rename_i es c hb
    cases hm
    obtain ⟨L', e1, e2⟩ := H.objs r _ hb
    rw [hL] at e1; injection e1 with e1; subst e1
    cases e2 with | map at_ m => exact ⟨hb, _, at_, m⟩
  · cases hm

section
variable {P : Program} {E : Env} {ρ : Rho} {S : St} {w : World} {t : T AV} {nt : Nat} {a : Act} (C : Ctx P E ρ S w t nt a)
include C

theorem opLookup_ok {tt : TypeId} {x y : Operand} {ok : Bool} {nx : ANext} (h : opLookup E t S tt x y ok = .ok nx) :
    NextOK P ρ S w nx ((do pure (Next.value (← Instr.lookup tt (a.eval x) (a.eval y) ok)) : Sem Next).run P w) := by
  unfold opLookup at h
  obtain ⟨m, h1, h2⟩ := R.bind_ok h
  obtain ⟨k, h3, h4⟩ := R.bind_ok h2
  obtain ⟨v, h5, rfl⟩ := valR_ok h4
  have hm := C.o h1
  have hk := C.o h3
  generalize a.eval x = cm at hm
  generalize a.eval y = ck at hk
  unfold aLookup at h5
  obtain ⟨ke, g1, g2⟩ := R.bind_ok h5
  obtain ⟨ki, g3, g4⟩ := R.bind_ok g2
  obtain ⟨_, g5, g6⟩ := R.bind_ok g4
  obtain ⟨es, g7, g8⟩ := R.bind_ok g6
  obtain ⟨f, g9, g10⟩ := R.bind_ok g8
  obtain ⟨r, g11, g12⟩ := R.bind_ok g10
  have hp := R.guard_ok g5
  have hki := tiOf_ok C.env g3
  have hu := keyTypes_ok C.env g1 w
  cases g12
  -- the entries
  have tail : ∀ (cs : Array MapEntry) (l : List AEnt), l.Perm es → EntsR ρ l cs.toList → ∃ cv : Value, VR ρ r.1 cv ∧
      ((do
        Instr.checkKey cs.isEmpty 10000 ke.1 ck
        let (v, ok') ← match ← Instr.findKey ke.1 ck cs.toList with
          | some (_, v) => pure (v, true)
          | none => pure (← zeroValue ke.2, false)
        pure (if ok then .tuple #[v, .bool ok'] else v)) : Sem Value).run P w = .ok (if ok then .tuple #[cv, .bool r.2] else cv) w := by
    intro cs l l1 l2
    obtain ⟨k1, k2, k3⟩ := findKey_ok C.env C.hr C.facts g3 g9 hk l1 l2
    have hck := checkKey_plain (P := P) (w := w) hki hp cs.isEmpty ck
    cases f with
    | none =>
      have q0 : (zeroOf E ke.2).map (fun z => (z, false)) = .ok r := g11
      obtain ⟨z, q1, q2⟩ := R.map_ok q0
      unfold zeroOf at q1
      obtain ⟨i, q3, q4⟩ := R.bind_ok q1
      obtain ⟨v, z1, z2, z3⟩ := (tiOf_ok C.env q3).run_zero (R.of_ok q4) w
      subst q2
      rw [firstHit_none l2 k2] at k1
      exact ⟨v, z3 ρ, by simp only [Sem.run_bind, hck, k1, z1, Result.andThen_ok, Sem.run_pure]⟩
    | some e =>
      have q0 : R.ok (e.val, true) = R.ok r := g11
      cases q0
      obtain ⟨p1, p2, c1, ex, c2, e1, e2, e3, e4, e5, e6, e7⟩ := firstHit_some (i := 0) l2 k2
      rw [e6] at k1
      exact ⟨ex.val, e4.val, by simp only [Sem.run_bind, hck, k1, Result.andThen_ok, Sem.run_pure]⟩
  have fin : ∀ cv : Value, VR ρ r.1 cv → VR ρ (match (generalizing := false) ok with | true => .tup [r.1, .bool r.2] | false => r.1) (if ok then .tuple #[cv, .bool r.2] else cv) := by
    intro cv v1
    cases ok with
    | true => exact .tup (.cons v1 (.cons .bool .nil))
    | false => exact v1
  unfold entsOf at g7
  split at g7
  · cases g7; cases hm
    obtain ⟨cv, v1, v2⟩ := tail #[] [] .nil .nil
    refine quiet_val C ?_ (fin cv v1)
    rw [← v2]
    unfold Instr.lookup
    simp only [Sem.run_bind, hu, Result.andThen_ok, Sem.run_pure]
    rfl
  · obtain ⟨ec, q1, q2⟩ := R.map_ok g7
    subst q2
    cases hm with | map hL =>
    obtain ⟨_, cs, c1, c2⟩ := mapOf_ok C.hr q1 hL
    obtain ⟨l, l1, l2⟩ := c2.ents
    obtain ⟨cv, v1, v2⟩ := tail cs l l1 l2
    refine quiet_val C ?_ (fin cv v1)
    rw [← v2]
    unfold Instr.lookup
    simp only [Sem.run_bind, hu, run_getObj c1, Result.andThen_ok, Sem.run_pure]
    rfl
  · cases g7

end
end Go.Ev

/- A verified evaluator. Part S25: maps: storing, deleting. -/
namespace Go.Ev

theorem modify_mid {α : Type} (f : α → α) (c1 : List α) (x : α) (c2 : List α) : (c1 ++ x :: c2).modify c1.length f = c1 ++ f x :: c2 := by
  induction c1 with
  | nil => rfl
  | cons y c1 ih => simp [List.modify_succ_cons, ih]

theorem eraseIdx_mid {α : Type} (c1 : List α) (x : α) (c2 : List α) : (c1 ++ x :: c2).eraseIdx c1.length = c1 ++ c2 := by
  induction c1 with
  | nil => rfl
  | cons y c1 ih => simp [ih]

theorem setBornA_ok {b : Nat} {v : AV} : ∀ {es es' : List AEnt}, setBornA b v es = .ok es' → ∃ p x q, es = p ++ x :: q ∧ x.born = b ∧ es' = p ++ { x with val := v } :: q := by
  intro es
  induction es with
  | nil => intro es' h; cases h
  | cons e es ih =>
    intro es' h
    unfold setBornA at h
    split at h
    · rename_i hb
      cases h
      exact ⟨[], e, es, rfl, Nat.eq_of_beq_eq_true hb, rfl⟩
    · obtain ⟨l, h1, h2⟩ := R.bind_ok h
      cases h2
      obtain ⟨p, x, q, e1, e2, e3⟩ := ih h1
      exact ⟨e :: p, x, q, by rw [e1]; rfl, e2, by rw [e3]; rfl⟩

theorem delBornA_ok {b : Nat} : ∀ {es es' : List AEnt}, delBornA b es = .ok es' → ∃ p x q, es = p ++ x :: q ∧ x.born = b ∧ es' = p ++ q := by
  intro es
  induction es with
  | nil => intro es' h; cases h
  | cons e es ih =>
    intro es' h
    unfold delBornA at h
    split at h
    · rename_i hb
      cases h
      exact ⟨[], e, _, rfl, Nat.eq_of_beq_eq_true hb, rfl⟩
    · obtain ⟨l, h1, h2⟩ := R.bind_ok h
      cases h2
      obtain ⟨p, x, q, e1, e2, e3⟩ := ih h1
      exact ⟨e :: p, x, q, by rw [e1]; rfl, e2, by rw [e3]; rfl⟩

theorem born_one {l : List AEnt} (hn : (l.map (·.born)).Nodup) {x y : AEnt} (hx : x ∈ l) (hy : y ∈ l) (h : x.born = y.born) : x = y := by
  induction l with
  | nil => cases hx
  | cons z l ih =>
    simp only [List.map_cons, List.nodup_cons, List.mem_map, not_exists, not_and] at hn
    rcases List.mem_cons.1 hx with a | a <;> rcases List.mem_cons.1 hy with b | b
    · rw [a, b]
    · exact absurd (a ▸ h.symm) (hn.1 y b)
    · exact absurd (b ▸ h) (hn.1 x a)
    · exact ih hn.2 a b

/- Two lists with the same entries, cut at entries with one stamp. -/
theorem perm_mid {l1 l2 p q : List AEnt} {x y : AEnt} (hp : (l1 ++ x :: l2).Perm (p ++ y :: q)) (hn : ((l1 ++ x :: l2).map (·.born)).Nodup) (h : x.born = y.born) :
    y = x ∧ (l1 ++ l2).Perm (p ++ q) := by
  have hy : y ∈ l1 ++ x :: l2 := hp.mem_iff.2 (by simp)
  have e : x = y := born_one hn (by simp) hy h
  subst e
  refine ⟨rfl, ?_⟩
  have a1 : (x :: (l1 ++ l2)).Perm (l1 ++ x :: l2) := List.perm_middle.symm
  have a2 : (p ++ x :: q).Perm (x :: (p ++ q)) := List.perm_middle
  exact (List.perm_cons x).1 (a1.trans (hp.trans a2))

theorem insertKey_perm (x : AEnt) (es : List AEnt) : (insertKey x es).Perm (x :: es) := by
  induction es with
  | nil => exact .refl _
  | cons e es ih =>
    unfold insertKey
    split
    · exact .refl _
    · exact (List.Perm.cons e ih).trans (.swap x e es)

/- A map turns. -/
theorem Ext.putMap {ρ : Rho} {S : St} {h : Array Obj} (H : HR ρ S h) {r : Nat} {L : Loc} {es es' : List AEnt} {c c' : Nat} {cs cs' : Array MapEntry}
    (hr : S.heap.get r = some (.map es c)) (hL : ρ.loc r = some L) (hat : h[L.blk]? = some (.map cs c)) (hm : MapR ρ es' c' cs'.toList) (hc : c ≤ c')
    (hsub : c' = c → ∀ e ∈ cs'.toList, ∃ e0 ∈ cs.toList, e0.born = e.born) :
    Ext ρ S h ρ (S.put r (.map es' c')) (h.setIfInBounds L.blk (.map cs' c')) := by
  have hlt : L.blk < h.size := H.bound r L hL
  refine Ext.put H hr rfl hL rfl (.map (cs := cs') ?_ hm) rfl ?_ (.inr ?_)
  · rw [Array.getElem?_setIfInBounds, if_pos rfl, if_pos hlt]
  · intro b' o2 g _ _ hg; cases hg
  · intro cs2 c2 h2
    cases h2
    exact ⟨cs, c, hat, hc, hsub⟩

theorem run_setObj {P : Program} {w : World} {r : Nat} {o o' : Obj} (h : w.heap[r]? = some o) (hn : Obj.isCells o = false := by rfl) : (setObj r o').run P w = .ok () { w with heap := w.heap.setIfInBounds r o' } := by
  simp only [setObj, Sem.run, h]
  cases o <;> first | rfl | (cases hn)

section
variable {P : Program} {E : Env} {ρ : Rho} {S : St} {w : World} {t : T AV} {nt : Nat} {a : Act} (C : Ctx P E ρ S w t nt a)
include C

theorem aMapSet_ok {tt : TypeId} {m k v : AV} {cm ck cv : Value} {S' : St} (h : aMapSet E S tt m k v = .ok S') (hm : VR ρ m cm) (hk : VR ρ k ck) (hv : VR ρ v cv) :
    ∃ w', (Instr.mapUpdate tt cm ck cv).run P w = .ok () w' ∧ Ext ρ S w.heap ρ S' w'.heap ∧ SameOs w w' := by
  unfold aMapSet at h
  obtain ⟨ke, g1, g2⟩ := R.bind_ok h
  obtain ⟨ki, g3, g4⟩ := R.bind_ok g2
  obtain ⟨_, g5, g6⟩ := R.bind_ok g4
  have hp := R.guard_ok g5
  have hki := tiOf_ok C.env g3
  have hu := keyTypes_ok C.env g1 w
  have hck := checkKey_plain (P := P) (w := w) hki hp false ck
  split at g6
  · rename_i r
    obtain ⟨ec, g7, g8⟩ := R.bind_ok g6
    obtain ⟨f, g9, g10⟩ := R.bind_ok g8
    cases hm with | map hL =>
    rename_i L
    obtain ⟨hget, cs, c1, c2⟩ := mapOf_ok C.hr g7 hL
    obtain ⟨l, l1, l2⟩ := c2.ents
    obtain ⟨k1, k2, k3⟩ := findKey_ok C.env C.hr C.facts g3 g9 hk l1 l2
    have hnod : (l.map (·.born)).Nodup := by rw [l2.borns]; exact c2.nodup
    cases f with
    | none =>
      cases g10
      rw [firstHit_none l2 k2] at k1
      refine ⟨{ w with heap := w.heap.setIfInBounds L.blk (.map (cs.push { key := ck, val := cv, born := ec.2 }) (ec.2 + 1)) }, ?_, ?_, ⟨rfl, rfl, rfl⟩⟩
      · unfold Instr.mapUpdate
        simp only [Sem.run_bind, hu, run_getObj c1, Result.andThen_ok, hck, k1]
        exact run_setObj c1
      · refine Ext.putMap C.hr hget hL c1 ?_ (by omega) (fun e => by omega)
        refine ⟨⟨l ++ [⟨k, v, ec.2⟩], ?_, ?_⟩, ?_, ?_⟩
        · refine List.Perm.trans ?_ (insertKey_perm _ _).symm
          exact (List.perm_append_singleton _ _).trans (l1.cons _)
        · rw [Array.toList_push]
          exact l2.append (.cons ⟨hk, hv, rfl⟩ .nil)
        · intro e he
          rw [Array.toList_push, List.mem_append] at he
          rcases he with he | he
          · have := c2.old e he; omega
          · simp at he; subst he; exact Nat.lt_succ_self _
        · rw [Array.toList_push, List.map_append, List.nodup_append]
          refine ⟨c2.nodup, by simp, ?_⟩
          intro a ha b hb
          simp at hb
          subst hb
          obtain ⟨e, he, rfl⟩ := List.mem_map.1 ha
          have := c2.old e he
          show e.born ≠ ec.2
          omega
    | some e =>
      have q0 : (setBornA e.born v ec.1).bind (fun es => R.ok (S.put r (.map es ec.2))) = .ok S' := g10
      obtain ⟨es', q1, q2⟩ := R.bind_ok q0
      cases q2
      obtain ⟨p1, p2, d1, ex, d2, e1, e2, e3, e4, e5, e6, e7⟩ := firstHit_some (i := 0) l2 k2
      rw [e6] at k1
      have hke := k3 e (by rw [e1]; simp)
      rw [e7] at hke
      obtain ⟨s1, s2⟩ := keyEq_one C.env C.hr C.facts g3 hp hke hk e4.key
      have hold : ((cs[0 + d1.length]?).map (·.key)).getD ck = ex.key := by
        have : cs[0 + d1.length]? = some ex := by
          rw [← Array.getElem?_toList, e2]; simp
        rw [this]; rfl
      have hkt : (Instr.keyThatStays ex.key ck).run P w = .ok ck w := by
        unfold Instr.keyThatStays
        rw [← s1] at s2 ⊢
        rw [if_pos s2]; rfl
      refine ⟨{ w with heap := w.heap.setIfInBounds L.blk (.map (cs.modify (0 + d1.length) fun e => { e with key := ck, val := cv }) ec.2) }, ?_, ?_, ⟨rfl, rfl, rfl⟩⟩
      · unfold Instr.mapUpdate
        simp only [Sem.run_bind, hu, run_getObj c1, Result.andThen_ok, hck, k1, hold, hkt]
        exact run_setObj c1
      · have hcs' : (cs.modify (0 + d1.length) fun e => { e with key := ck, val := cv }).toList = d1 ++ { ex with key := ck, val := cv } :: d2 := by
          rw [Array.toList_modify, e2, Nat.zero_add, modify_mid]
        obtain ⟨p, x, q, b1, b2, b3⟩ := setBornA_ok q1
        have hperm := l1
        rw [e1, b1] at hperm
        rw [e1] at hnod
        obtain ⟨f1, f2⟩ := perm_mid hperm hnod b2.symm
        refine Ext.putMap C.hr hget hL c1 ?_ (Nat.le_refl _) ?_
        · refine ⟨⟨p1 ++ { e with val := v } :: p2, ?_, ?_⟩, ?_, ?_⟩
          · rw [b3, f1]
            exact List.perm_middle.trans ((List.Perm.cons _ f2).trans List.perm_middle.symm)
          · rw [hcs']
            exact e3.append (.cons ⟨s1 ▸ e4.key, hv, e4.born⟩ e5)
          · intro y hy
            rw [hcs', List.mem_append, List.mem_cons] at hy
            rcases hy with hy | hy | hy
            · exact c2.old y (by rw [e2]; simp [hy])
            · subst hy; exact c2.old ex (by rw [e2]; simp)
            · exact c2.old y (by rw [e2]; simp [hy])
          · have := c2.nodup
            rw [e2] at this
            rw [hcs']
            simpa using this
        · intro _ y hy
          rw [hcs', List.mem_append, List.mem_cons] at hy
          rcases hy with hy | hy | hy
          · exact ⟨y, by rw [e2]; simp [hy], rfl⟩
          · subst hy; exact ⟨ex, by rw [e2]; simp, rfl⟩
          · exact ⟨y, by rw [e2]; simp [hy], rfl⟩
  · cases g6

theorem opMapSet_ok {tt : TypeId} {x y z : Operand} {nx : ANext} (h : opMapSet E t S tt x y z = .ok nx) :
    NextOK P ρ S w nx ((do Instr.mapUpdate tt (a.eval x) (a.eval y) (a.eval z); pure Next.skip : Sem Next).run P w) := by
  unfold opMapSet at h
  obtain ⟨m, h1, h2⟩ := R.bind_ok h
  obtain ⟨k, h3, h4⟩ := R.bind_ok h2
  obtain ⟨v, h5, h6⟩ := R.bind_ok h4
  obtain ⟨S', h7, rfl⟩ := unitS_ok h6
  obtain ⟨w', r1, r2, ro⟩ := aMapSet_ok C h7 (C.o h1) (C.o h3) (C.o h5)
  simp only [Sem.run_bind, r1, Result.andThen_ok, Sem.run_pure]
  exact .skip r2 ro

theorem aDelete_ok {tt : TypeId} {m k : AV} {cm ck : Value} {S' : St} (h : aDelete E S tt m k = .ok S') (hm : VR ρ m cm) (hk : VR ρ k ck) {ts : Array TypeId} (hts : ts[0]? = some tt) (type : TypeId) :
    ∃ w', (Builtin.delete_ ts type #[cm, ck]).run P w = .ok (.tuple #[]) w' ∧ Ext ρ S w.heap ρ S' w'.heap ∧ SameOs w w' := by
  unfold aDelete at h
  obtain ⟨ke, g1, g2⟩ := R.bind_ok h
  obtain ⟨ki, g3, g4⟩ := R.bind_ok g2
  obtain ⟨_, g5, g6⟩ := R.bind_ok g4
  have hp := R.guard_ok g5
  have hki := tiOf_ok C.env g3
  have hu := keyTypes_ok C.env g1 w
  have hck := fun e => checkKey_plain (P := P) (w := w) hki hp e ck
  have ha0 : (#[cm, ck] : Array Value)[0]? = some cm := rfl
  have ha1 : (#[cm, ck] : Array Value)[1]? = some ck := rfl
  split at g6
  · cases g6
    cases hm
    refine ⟨w, ?_, Ext.refl C.hr, .refl w⟩
    unfold Builtin.delete_
    simp only [hts, ha0, ha1, Sem.run_bind, hu, Result.andThen_ok, hck, Sem.run_pure]
  · rename_i r
    obtain ⟨ec, g7, g8⟩ := R.bind_ok g6
    obtain ⟨f, g9, g10⟩ := R.bind_ok g8
    cases hm with | map hL =>
    rename_i L
    obtain ⟨hget, cs, c1, c2⟩ := mapOf_ok C.hr g7 hL
    obtain ⟨l, l1, l2⟩ := c2.ents
    obtain ⟨k1, k2, k3⟩ := findKey_ok C.env C.hr C.facts g3 g9 hk l1 l2
    have hnod : (l.map (·.born)).Nodup := by rw [l2.borns]; exact c2.nodup
    cases f with
    | none =>
      cases g10
      rw [firstHit_none l2 k2] at k1
      refine ⟨{ w with heap := w.heap.setIfInBounds L.blk (.map cs ec.2) }, ?_, ?_, ⟨rfl, rfl, rfl⟩⟩
      · unfold Builtin.delete_
        simp only [hts, ha0, ha1, Sem.run_bind, hu, run_getObj c1, Result.andThen_ok, hck, k1, run_setObj c1, Sem.run_pure]
      · have : w.heap.setIfInBounds L.blk (.map cs ec.2) = w.heap := by
          apply Array.ext_getElem?
          intro j
          rw [Array.getElem?_setIfInBounds]
          by_cases e : L.blk = j
          · subst e; rw [if_pos rfl, if_pos (C.hr.bound _ _ hL), c1]
          · rw [if_neg e]
        show Ext ρ S w.heap ρ S (w.heap.setIfInBounds L.blk (.map cs ec.2))
        rw [this]; exact Ext.refl C.hr
    | some e =>
      have q0 : (delBornA e.born ec.1).bind (fun es => R.ok (S.put r (.map es ec.2))) = .ok S' := g10
      obtain ⟨es', q1, q2⟩ := R.bind_ok q0
      cases q2
      obtain ⟨p1, p2, d1, ex, d2, e1, e2, e3, e4, e5, e6, e7⟩ := firstHit_some (i := 0) l2 k2
      rw [e6] at k1
      refine ⟨{ w with heap := w.heap.setIfInBounds L.blk (.map (cs.eraseIdxIfInBounds (0 + d1.length)) ec.2) }, ?_, ?_, ⟨rfl, rfl, rfl⟩⟩
      · unfold Builtin.delete_
        simp only [hts, ha0, ha1, Sem.run_bind, hu, run_getObj c1, Result.andThen_ok, hck, k1, run_setObj c1, Sem.run_pure]
      · have hcs' : (cs.eraseIdxIfInBounds (0 + d1.length)).toList = d1 ++ d2 := by
          rw [Array.toList_eraseIdxIfInBounds, e2, Nat.zero_add, eraseIdx_mid]
        obtain ⟨p, x, q, b1, b2, b3⟩ := delBornA_ok q1
        have hperm := l1
        rw [e1, b1] at hperm
        rw [e1] at hnod
        obtain ⟨f1, f2⟩ := perm_mid hperm hnod b2.symm
        refine Ext.putMap C.hr hget hL c1 ?_ (Nat.le_refl _) ?_
        · refine ⟨⟨p1 ++ p2, by rw [b3]; exact f2, by rw [hcs']; exact e3.append e5⟩, ?_, ?_⟩
          · intro y hy
            rw [hcs', List.mem_append] at hy
            exact c2.old y (by rw [e2]; rcases hy with hy | hy <;> simp [hy])
          · have := c2.nodup
            rw [e2] at this
            rw [hcs']
            simp only [List.map_append, List.map_cons] at this ⊢
            exact this.sublist (List.Sublist.append (List.Sublist.refl _) (List.sublist_cons_self _ _))
        · intro _ y hy
          rw [hcs', List.mem_append] at hy
          exact ⟨y, by rw [e2]; rcases hy with hy | hy <;> simp [hy], rfl⟩
  · cases g6

end
end Go.Ev

/- A verified evaluator. Part S26: maps: entries; iterators. -/
namespace Go.Ev

section
variable {P : Program} {E : Env} {ρ : Rho} {S : St} {w : World} {t : T AV} {nt : Nat} {a : Act} (C : Ctx P E ρ S w t nt a)
include C

theorem opRange_ok {tt : TypeId} {x : Operand} {nx : ANext} (h : opRange E t S tt x = .ok nx) :
    NextOK P ρ S w nx ((do pure (Next.value (← Instr.range tt (a.eval x))) : Sem Next).run P w) := by
  unfold opRange at h
  obtain ⟨v, h1, h2⟩ := R.bind_ok h
  obtain ⟨p, h3, rfl⟩ := valS_ok h2
  have hx := C.o h1
  generalize a.eval x = cx at hx
  unfold aRange at h3
  obtain ⟨i, h4, h5⟩ := R.bind_ok h3
  have hu := (tiOf_ok C.env h4).run_und w
  have fin : ∀ (o : AObj) (X : Obj), (match S.new o with | (b, S') => (R.ok (.ptr b 0, S') : R (AV × St))) = .ok p → OR (ρ.add S.next ⟨w.heap.size, 0, 0⟩) (w.heap.push X) o ⟨w.heap.size, 0, 0⟩ → o.group = none →
      NextOK P ρ S w (.val p.1 p.2) (.ok (.value (.pointer (some ⟨w.heap.size, 0, none⟩))) { w with heap := w.heap.push X }) := by
    intro o X hp hX hg
    have e := Ext.new C.hr hX (fun g hg' => by rw [hg] at hg'; cases hg')
    rw [St.new_eq] at hp
    cases hp
    refine .val (ρ' := ρ.add S.next ⟨w.heap.size, 0, 0⟩) ?_ ?_
    · rw [St.new_eq] at e; exact e
    · have := VR.ptr (ρ := ρ.add S.next ⟨w.heap.size, 0, 0⟩) (o := 0) Rho.add_at
      simpa using this
  split at h5
  · rename_i s hd
    rw [hd] at hu
    cases hx with | str hs =>
    rename_i b
    have hrun : (do pure (Next.value (← Instr.range tt (.string b))) : Sem Next).run P w = .ok (.value (.pointer (some ⟨w.heap.size, 0, none⟩))) { w with heap := w.heap.push (.stringIter b 0) } := by
      unfold Instr.range
      simp only [Sem.run_bind, hu, Result.andThen_ok, Sem.run_pure]
      rfl
    rw [hrun]
    exact fin _ _ h5 (.siter (by rw [Array.getElem?_push, if_pos rfl]) hs rfl) rfl
  · rename_i k e hd
    rw [hd] at hu
    cases hx
    have hrun : (do pure (Next.value (← Instr.range tt (.map none))) : Sem Next).run P w = .ok (.value (.pointer (some ⟨w.heap.size, 0, none⟩))) { w with heap := w.heap.push (.mapIter none 0 #[] 0) } := by
      unfold Instr.range
      simp only [Sem.run_bind, hu, Result.andThen_ok, Sem.run_pure]
      rfl
    rw [hrun]
    exact fin _ _ h5 (.miterNil (by rw [Array.getElem?_push, if_pos rfl]) rfl) rfl
  · rename_i k e m hd
    rw [hd] at hu
    obtain ⟨ec, g1, g2⟩ := R.bind_ok h5
    cases hx with | map hL =>
    rename_i L
    obtain ⟨hget, cs, c1, c2⟩ := mapOf_ok C.hr g1 hL
    have hrun : (do pure (Next.value (← Instr.range tt (.map (some L.blk)))) : Sem Next).run P w = .ok (.value (.pointer (some ⟨w.heap.size, 0, none⟩))) { w with heap := w.heap.push (.mapIter (some L.blk) ec.2 #[] ec.2) } := by
      unfold Instr.range
      simp only [Sem.run_bind, hu, Result.andThen_ok, run_getObj c1, Sem.run_pure]
      rfl
    rw [hrun]
    have hne : m ≠ S.next := fun e' => by rw [e', C.hr.next _ (Nat.le_refl _)] at hL; cases hL
    have hlt := C.hr.bound _ _ hL
    have hsame : (w.heap.push (.mapIter (some L.blk) ec.2 #[] ec.2))[L.blk]? = some (.map cs ec.2) := by rw [push_get hlt, c1]
    refine fin _ _ g2 (.miter (M := L) (seen := #[]) (stepped := ec.2) (by rw [Array.getElem?_push, if_pos rfl]) ((Rho.add_ne hne).trans hL) ?_ ?_ rfl rfl) rfl
    · intro cs2 c2' h2
      rw [hsame] at h2; cases h2; exact Nat.le_refl _
    · intro cs2 h2 e' he'
      rw [hsame] at h2; cases h2
      obtain ⟨l, l1, l2⟩ := c2.ents
      have hb : e'.born ∈ ec.1.map (·.born) := by
        have := List.mem_map_of_mem (f := (·.born)) he'
        rw [← l2.borns] at this
        exact (l1.map _).mem_iff.1 this
      simp [hb]
  · cases h5

end

theorem isIn_iff {n : Nat} : ∀ {l : List Nat}, isIn n l = true ↔ n ∈ l := by
  intro l
  induction l with
  | nil => simp [isIn]
  | cons m ms ih =>
    unfold isIn
    split
    · rename_i h; have := Nat.eq_of_beq_eq_true h; simp [this]
    · rename_i h; rw [ih]; have := ne_of_nbeq h; simp [this]

theorem without_iff {n k : Nat} : ∀ {l : List Nat}, k ∈ without n l ↔ k ∈ l ∧ k ≠ n := by
  intro l
  induction l with
  | nil => simp [without]
  | cons m ms ih =>
    unfold without
    split
    · rename_i h
      have := Nat.eq_of_beq_eq_true h; subst this
      rw [ih]; simp only [List.mem_cons]
      constructor
      · exact fun ⟨a, b⟩ => ⟨.inr a, b⟩
      · rintro ⟨a | a, b⟩
        · exact absurd a b
        · exact ⟨a, b⟩
    · rename_i h
      have := ne_of_nbeq h
      simp only [List.mem_cons, ih]
      constructor
      · rintro (a | ⟨a, b⟩)
        · exact ⟨.inl a, fun e => this (by rw [← e, a])⟩
        · exact ⟨.inr a, b⟩
      · rintro ⟨a | a, b⟩
        · exact .inl a
        · exact .inr ⟨a, b⟩

noncomputable def stepA (S : St) (r m since : Nat) (todo : List Nat) (e : AEnt) : AV × St :=
  (.tup [.bool true, e.key, e.val], S.put r (.miter (some m) since (without e.born todo) (some e.born)))

theorem waysNext_mem {S : St} {r m since : Nat} {todo : List Nat} : ∀ {es : List AEnt} {e : AEnt}, e ∈ es → e.born ∈ todo → stepA S r m since todo e ∈ waysNext S r m since todo es := by
  intro es
  induction es with
  | nil => intro e h; cases h
  | cons x es ih =>
    intro e h hb
    unfold waysNext
    rcases List.mem_cons.1 h with c | c
    · subst c; rw [isIn_iff.2 hb]; exact List.mem_cons_self
    · split
      · exact List.mem_cons_of_mem _ (ih c hb)
      · exact ih c hb

theorem waysNext_nil {S : St} {r m since : Nat} {todo : List Nat} : ∀ {es : List AEnt}, waysNext S r m since todo es = [] → ∀ e ∈ es, e.born ∉ todo := by
  intro es h e he hb
  have := waysNext_mem (S := S) (r := r) (m := m) (since := since) he hb
  rw [h] at this; cases this

theorem waysNext_none {S : St} {r m since : Nat} {todo : List Nat} : ∀ {es : List AEnt}, (∀ e ∈ es, e.born ∉ todo) → waysNext S r m since todo es = [] := by
  intro es
  induction es with
  | nil => intro _; rfl
  | cons x es ih =>
    intro h
    unfold waysNext
    split
    · rename_i hi; exact absurd (isIn_iff.1 hi) (h x (by simp))
    · exact ih fun e he => h e (by simp [he])

theorem choose_next {P : Program} (w : World) (n : Nat) : ∃ k w1, (choose (.mapNext n)).run P w = .ok k w1 ∧ (0 < n → k < n) ∧ w1.heap = w.heap ∧ SameOs w w1 := by
  simp only [choose, Sem.run]
  by_cases h : (Question.mapNext n).forced = true
  · rw [if_pos h]; exact ⟨0, w, rfl, fun h => h, rfl, .refl w⟩
  · rw [if_neg h]; exact ⟨_, _, rfl, fun h => Nat.mod_lt _ h, rfl, ⟨rfl, rfl, rfl⟩⟩

theorem EntsR.get {ρ : Rho} : ∀ {l : List AEnt} {c : List MapEntry}, EntsR ρ l c → ∀ e ∈ c, ∃ x ∈ l, EntR ρ x e
  | _, _, .nil, e, he => by cases he
  | _, _, .cons x xs, e, he => by
    rcases List.mem_cons.1 he with h | h
    · subst h; exact ⟨_, by simp, x⟩
    · obtain ⟨y, hy, hr⟩ := xs.get e h; exact ⟨y, by simp [hy], hr⟩

theorem EntsR.get' {ρ : Rho} : ∀ {l : List AEnt} {c : List MapEntry}, EntsR ρ l c → ∀ x ∈ l, ∃ e ∈ c, EntR ρ x e
  | _, _, .nil, e, he => by cases he
  | _, _, .cons x xs, e, he => by
    rcases List.mem_cons.1 he with h | h
    · subst h; exact ⟨_, by simp, x⟩
    · obtain ⟨y, hy, hr⟩ := xs.get' e h; exact ⟨y, by simp [hy], hr⟩

theorem bytes_drop {b : ByteArray} {pos : Nat} {c : Nat} {cs : List Nat} (h : (bytesOf b).drop pos = c :: cs) : pos < b.size ∧ (b.get! pos).toNat = c := by
  have hlt : pos < b.size := by
    rcases Nat.lt_or_ge pos b.size with a | a
    · exact a
    · rw [List.drop_eq_nil_of_le (by rw [bytesOf_length]; exact a)] at h; cases h
  refine ⟨hlt, ?_⟩
  have h1 : (bytesOf b)[pos]? = some c := by
    have := congrArg (·[0]?) h
    simpa using this
  unfold bytesOf at h1
  rw [List.getElem?_map, Array.getElem?_toList] at h1
  have hs : pos < b.data.size := hlt
  rw [Array.getElem?_eq_getElem hs] at h1
  have h2 : (b.data[pos]).toNat = c := by simpa using h1
  rw [← h2]
  show (b.data[pos]!).toNat = _
  rw [getElem!_pos b.data pos hs]

section
variable {P : Program} {E : Env} {ρ : Rho} {S : St} {w : World} {t : T AV} {nt : Nat} {a : Act} (C : Ctx P E ρ S w t nt a)
include C

theorem opNext_ok {x : Operand} {isString : Bool} {nx : ANext} (h : opNext E t S x isString = .ok nx) (tt : TypeId) :
    NextOK P ρ S w nx ((do pure (Next.value (← Instr.next (a.eval x) isString tt)) : Sem Next).run P w) := by
  unfold opNext at h
  obtain ⟨v, h1, h2⟩ := R.bind_ok h
  have hx := C.o h1
  generalize a.eval x = cx at hx
  unfold aNext at h2
  split at h2
  · rename_i r
    cases hx with | ptr hL =>
    rename_i L
    have hsh : ∀ o, S.heap.get r = some o → OR ρ w.heap o L := by
      intro o ho
      obtain ⟨L', e1, e2⟩ := C.hr.objs r o ho
      rw [hL] at e1; injection e1 with e1; subst e1; exact e2
    have over : NextOK P ρ S w (.val (.tup [.bool false]) S) (.ok (.value (.tuple #[.bool false])) w) := .val (Ext.refl C.hr) (.tup (.cons .bool .nil))
    split at h2
    · -- a string
      rename_i s pos hb
      cases hsh _ hb with | siter at_ hs sh0 =>
      rename_i b
      subst hs
      simp only [sh0, Nat.zero_add]
      split at h2
      · rename_i hd
        cases h2
        have hge : ¬ pos < b.size := by
          have := congrArg List.length hd
          rw [List.length_drop, bytesOf_length] at this
          simp at this; omega
        have hrun : (do pure (Next.value (← Instr.next (.pointer (some ⟨L.blk, 0, none⟩)) true tt)) : Sem Next).run P w = .ok (.value (.tuple #[.bool false])) w := by
          unfold Instr.next
          simp only [Sem.run_bind, run_getObj at_, Result.andThen_ok, if_neg hge, Sem.run_pure]
        rw [hrun]; exact over
      · rename_i c cs hd
        split at h2
        · rename_i hc
          cases h2
          obtain ⟨hlt, hg⟩ := bytes_drop hd
          have hc' : c < 128 := by simpa [Nat.blt_eq] using hc
          have hdec : Utf8.decode b pos = (c, 1) := by
            unfold Utf8.decode
            simp only [Nat.add_zero, hg]
            rw [if_pos hc']
          have hrun : (do pure (Next.value (← Instr.next (.pointer (some ⟨L.blk, 0, none⟩)) true tt)) : Sem Next).run P w =
              .ok (.value (.tuple #[.bool true, goInt pos, .int .i32 c])) { w with heap := w.heap.setIfInBounds L.blk (.stringIter b (pos + 1)) } := by
            unfold Instr.next
            simp only [Sem.run_bind, run_getObj at_, Result.andThen_ok, if_pos hlt, hdec, run_setObj at_, Sem.run_pure]
          rw [hrun]
          have hlb := C.hr.bound _ _ hL
          refine .val (ρ' := ρ) (Ext.put C.hr hb rfl hL rfl (.siter (b := b) ?_ rfl sh0) rfl ?_ (.inr ?_)) (.tup (.cons .bool (.cons .int (.cons .int .nil))))
          · rw [Array.getElem?_setIfInBounds, if_pos rfl, if_pos hlb]
          · intro b' o2 g _ _ hg'; cases hg'
          · intro cs2 c2 h2; cases h2
        · cases h2
    · -- a nil map
      rename_i hb
      cases h2
      cases hsh _ hb with | miterNil at_ sh0 =>
      simp only [sh0, Nat.zero_add]
      have hrun : (do pure (Next.value (← Instr.next (.pointer (some ⟨L.blk, 0, none⟩)) false tt)) : Sem Next).run P w = .ok (.value (.tuple #[.bool false])) w := by
        unfold Instr.next
        simp only [Sem.run_bind, run_getObj at_, Result.andThen_ok, Sem.run_pure]
      rw [hrun]; exact over
    · rename_i m since todo last hb
      obtain ⟨ec, g1, g2⟩ := R.bind_ok h2
      obtain ⟨_, g3, g4⟩ := R.bind_ok g2
      have hsi := Nat.eq_of_beq_eq_true (R.guard_ok g3)
      cases hsh _ hb with | miter at_ hM le left hl sh0 =>
      rename_i M seen stepped
      simp only [sh0, Nat.zero_add]
      obtain ⟨hget, cs, c1, c2⟩ := mapOf_ok C.hr g1 hM
      rw [hsi] at c1 c2
      have hleft := left cs c1
      obtain ⟨l, l1, l2⟩ := c2.ents
      have hnot : (!seen.isEmpty && !cs.isEmpty && cs.all (·.born ≥ stepped)) = false := by
        cases last with
        | none => subst hl; rfl
        | some b =>
          obtain ⟨_, hst⟩ := hl
          subst hst
          cases hcs : cs.isEmpty with
          | true => simp
          | false =>
            have hsz : 0 < cs.size := by
              rcases Nat.eq_zero_or_pos cs.size with h0 | h0
              · have := Array.eq_empty_of_size_eq_zero h0; subst this; cases hcs
              · exact h0
            have : cs.all (·.born ≥ stepped) = false := by
              rw [Array.all_eq_false]
              refine ⟨0, hsz, ?_⟩
              have := c2.old cs[0] (by simp)
              simp; omega
            rw [this, Bool.and_false]
      generalize hF : (cs.filter fun e => !seen.contains e.born) = F
      have hFm : ∀ e, e ∈ F ↔ e ∈ cs.toList ∧ e.born ∉ seen := by
        intro e; rw [← hF, Array.mem_filter]; simp
      have hold : F.filter (·.born < since) = F := by
        rw [Array.filter_eq_self]
        intro e he
        have := c2.old e ((hFm e).1 he).1
        simpa using this
      have hnew : F.filter (·.born ≥ since) = #[] := by
        rw [Array.filter_eq_empty_iff]
        intro e he
        have := c2.old e ((hFm e).1 he).1
        simpa using this
      have hpos : F.size = 0 ∨ 0 < F.size := Nat.eq_zero_or_pos _
      rcases hpos with h0 | h0
      · have hFe := Array.eq_empty_of_size_eq_zero h0
        rw [hFe] at hF hFm hold hnew
        have hn : waysNext S r m since todo ec.1 = [] := by
          refine waysNext_none fun x hx hb => ?_
          obtain ⟨e, he, hr⟩ := l2.get' x (l1.mem_iff.2 hx)
          have h1 := (hleft e he).1 (hr.born ▸ hb)
          have := (hFm e).2 ⟨he, h1⟩
          simp at this
        rw [hn] at g4
        cases g4
        have hch : (choose (.mapNext 1)).run P w = .ok 0 w := by simp [choose, Sem.run, Question.forced]
        have hrun : (do pure (Next.value (← Instr.next (.pointer (some ⟨L.blk, 0, none⟩)) false tt)) : Sem Next).run P w = .ok (.value (.tuple #[.bool false])) w := by
          unfold Instr.next
          simp only [Sem.run_bind, run_getObj at_, Result.andThen_ok, run_getObj c1, hnot, hF, hold, hnew]
          simp only [Array.isEmpty_empty, if_true, Array.append_empty, Array.map_empty, List.size_toArray, List.length_cons, List.length_nil, Nat.zero_add, Sem.run_bind, hch, Result.andThen_ok, Bool.false_eq_true, if_false]
          rfl
        rw [hrun]; exact over
      · have hFne : F.isEmpty = false := by
          cases hq : F.isEmpty with
          | false => rfl
          | true => rw [Array.isEmpty_iff.1 hq] at h0; cases h0
        obtain ⟨k, w1, hch, hk, hw1, hso⟩ := choose_next (P := P) w F.size
        have hk := hk h0
        have he : F[k] ∈ F := Array.getElem_mem hk
        obtain ⟨e1, e2⟩ := (hFm F[k]).1 he
        obtain ⟨x, hx, hr⟩ := l2.get F[k] e1
        have hxt : x.born ∈ todo := by rw [hr.born]; exact (hleft F[k] e1).2 e2
        have hmem := waysNext_mem (S := S) (r := r) (m := m) (since := since) (l1.mem_iff.1 hx) hxt
        have hlb := C.hr.bound _ _ hL
        have hrun : (do pure (Next.value (← Instr.next (.pointer (some ⟨L.blk, 0, none⟩)) false tt)) : Sem Next).run P w =
            .ok (.value (.tuple #[.bool true, F[k].key, F[k].val])) { w1 with heap := w1.heap.setIfInBounds L.blk (.mapIter (some M.blk) since (seen.push F[k].born) since) } := by
          have hg : (F.map some)[k]? = some (some F[k]) := by simp [hk]
          have hat1 : w1.heap[L.blk]? = some (.mapIter (some M.blk) since seen stepped) := by rw [hw1]; exact at_
          unfold Instr.next
          simp only [Sem.run_bind, run_getObj at_, Result.andThen_ok, run_getObj c1, hnot, hF, hold, hnew]
          simp only [hFne, Bool.false_eq_true, if_false, Array.append_empty, Array.empty_append, Array.size_map, Sem.run_bind, hch, Result.andThen_ok, hg, run_setObj hat1, Sem.run_pure]
        have key : NextOK P ρ S w (.val (stepA S r m since todo x).1 (stepA S r m since todo x).2)
            (.ok (.value (.tuple #[.bool true, F[k].key, F[k].val])) { w1 with heap := w1.heap.setIfInBounds L.blk (.mapIter (some M.blk) since (seen.push F[k].born) since) }) := by
          refine .val (ρ' := ρ) ?_ (.tup (.cons .bool (.cons hr.key (.cons hr.val .nil)))) ⟨hso.os, hso.tape, hso.output⟩
          show Ext ρ S w.heap ρ _ (w1.heap.setIfInBounds L.blk _)
          rw [hw1]
          have hne : M.blk ≠ L.blk := fun e => by rw [e, at_] at c1; cases c1
          have hsame : (w.heap.setIfInBounds L.blk (.mapIter (some M.blk) since (seen.push F[k].born) since))[M.blk]? = some (.map cs since) := by
            rw [Array.getElem?_setIfInBounds, if_neg (fun e => hne e.symm)]; exact c1
          refine Ext.put C.hr hb rfl hL rfl (.miter (M := M) (seen := seen.push F[k].born) (stepped := since) ?_ hM ?_ ?_ ?_ sh0) rfl ?_ (.inr ?_)
          · rw [Array.getElem?_setIfInBounds, if_pos rfl, if_pos hlb]
          · intro cs2 c2' h2; rw [hsame] at h2; cases h2; exact Nat.le_refl _
          · intro cs2 h2 e' he'
            rw [hsame] at h2; cases h2
            rw [without_iff, hleft e' he', hr.born]
            simp
          · simp [hr.born]
          · intro b' o2 g _ _ hg'; cases hg'
          · intro cs2 c2' h2; cases h2
        rw [hrun]
        split at g4
        · rename_i hq; rw [hq] at hmem; cases hmem
        · rename_i p hq
          rw [hq] at hmem
          cases g4
          have : stepA S r m since todo x = p := by simpa using hmem
          rw [← this]; exact key
        · cases g4
          exact .fork hmem key
    · cases h2
  · cases h2

end
end Go.Ev

/- A verified evaluator. Part S27: entries of maps. -/
namespace Go.Ev

theorem entryAt_ok {b : Nat} : ∀ {es : List AEnt} {v : AV}, entryAt b es = .ok v → ∃ x ∈ es, x.born = b ∧ v = .tup [x.key, x.val] := by
  intro es
  induction es with
  | nil => intro v h; cases h
  | cons e es ih =>
    intro v h
    unfold entryAt at h
    split at h
    · rename_i hb; cases h; exact ⟨e, by simp, Nat.eq_of_beq_eq_true hb, rfl⟩
    · obtain ⟨x, hx, h1, h2⟩ := ih h; exact ⟨x, by simp [hx], h1, h2⟩

theorem entry_one {l : List MapEntry} (hn : (l.map (·.born)).Nodup) {x y : MapEntry} (hx : x ∈ l) (hy : y ∈ l) (h : x.born = y.born) : x = y := by
  induction l with
  | nil => cases hx
  | cons z l ih =>
    simp only [List.map_cons, List.nodup_cons, List.mem_map, not_exists, not_and] at hn
    rcases List.mem_cons.1 hx with a | a <;> rcases List.mem_cons.1 hy with b | b
    · rw [a, b]
    · exact absurd (a ▸ h.symm) (hn.1 y b)
    · exact absurd (b ▸ h) (hn.1 x a)
    · exact ih hn.2 a b

section
variable {P : Program} {E : Env} {ρ : Rho} {S : St} {w : World} {t : T AV} {nt : Nat} {a : Act} (C : Ctx P E ρ S w t nt a)
include C

theorem opEntry_ok {x : Operand} {nx : ANext} (h : opEntry E t S x = .ok nx) :
    NextOK P ρ S w nx ((do pure (Next.value (← Instr.entry (a.eval x))) : Sem Next).run P w) := by
  unfold opEntry at h
  obtain ⟨v, h1, h2⟩ := R.bind_ok h
  obtain ⟨r0, h3, rfl⟩ := valR_ok h2
  have hx := C.o h1
  generalize a.eval x = cx at hx
  unfold aEntry at h3
  split at h3
  · rename_i r
    cases hx with | ptr hL =>
    rename_i L
    split at h3
    · rename_i m since todo b hb
      obtain ⟨ec, g1, g2⟩ := R.bind_ok h3
      obtain ⟨_, g3, g4⟩ := R.bind_ok g2
      have hsi := Nat.eq_of_beq_eq_true (R.guard_ok g3)
      obtain ⟨L', e1, e2⟩ := C.hr.objs r _ hb
      rw [hL] at e1; injection e1 with e1; subst e1
      cases e2 with | miter at_ hM le left hl sh0 =>
      rename_i M seen stepped
      obtain ⟨hbk, hst⟩ := hl
      subst hst
      simp only [sh0, Nat.zero_add]
      obtain ⟨hget, cs, c1, c2⟩ := mapOf_ok C.hr g1 hM
      rw [hsi] at c1 c2
      obtain ⟨l, l1, l2⟩ := c2.ents
      obtain ⟨y, hy, hyb, rfl⟩ := entryAt_ok g4
      obtain ⟨e, he, hr⟩ := l2.get' y (l1.mem_iff.2 hy)
      have hfind : cs.find? (·.born == b) = some e := by
        cases hf : cs.find? (·.born == b) with
        | none =>
          have := (Array.find?_eq_none.1 hf) e (by simpa using he)
          simp [← hr.born, hyb] at this
        | some e' =>
          have h1 : e'.born = b := by have := Array.find?_some hf; simpa using this
          have h2 : e' ∈ cs.toList := by have := Array.mem_of_find?_eq_some hf; simpa using this
          rw [entry_one c2.nodup h2 he (by rw [h1, ← hr.born, hyb])]
      refine quiet_val C (x := .tuple #[e.key, e.val]) ?_ (.tup (.cons hr.key (.cons hr.val .nil)))
      unfold Instr.entry
      simp only [Sem.run_bind, run_getObj at_, Result.andThen_ok, hbk, run_getObj c1, bne_self_eq_false, Bool.false_eq_true, if_false, hfind, Sem.run_pure]
    · cases h3
  · cases h3

theorem opEntryStore_ok {m s x : Operand} {nx : ANext} (h : opEntryStore E t S m s x = .ok nx) (tt : TypeId) :
    NextOK P ρ S w nx ((do Instr.entryStore tt (a.eval m) (a.eval s) (a.eval x); pure Next.skip : Sem Next).run P w) := by
  unfold opEntryStore at h
  obtain ⟨vm, h1, h2⟩ := R.bind_ok h
  obtain ⟨vs, h3, h4⟩ := R.bind_ok h2
  obtain ⟨v, h5, h6⟩ := R.bind_ok h4
  obtain ⟨S', h7, rfl⟩ := unitS_ok h6
  have hm := C.o h1
  have hs := C.o h3
  have hv := C.o h5
  generalize a.eval m = cm at hm
  generalize a.eval s = cst at hs
  generalize a.eval x = cv at hv
  unfold aEntryStore at h7
  split at h7
  · rename_i r
    obtain ⟨ec, g1, g2⟩ := R.bind_ok h7
    obtain ⟨n, g3, g4⟩ := R.bind_ok g2
    obtain ⟨es', g5, g6⟩ := R.bind_ok g4
    cases g6
    cases hm with | map hL =>
    rename_i L
    obtain ⟨k, rfl⟩ := asN_ok g3 hs
    obtain ⟨hget, cs, c1, c2⟩ := mapOf_ok C.hr g1 hL
    obtain ⟨l, l1, l2⟩ := c2.ents
    obtain ⟨p, y, q, b1, b2, b3⟩ := setBornA_ok g5
    have hnod : (l.map (·.born)).Nodup := by rw [l2.borns]; exact c2.nodup
    have hy : y ∈ l := l1.mem_iff.2 (by rw [b1]; simp)
    -- the entry's place
    have split : ∀ {l : List AEnt} {c : List MapEntry}, EntsR ρ l c → y ∈ l → ∃ l1 l2 c1 e c2, l = l1 ++ y :: l2 ∧ c = c1 ++ e :: c2 ∧ EntsR ρ l1 c1 ∧ EntR ρ y e ∧ EntsR ρ l2 c2 := by
      intro l
      induction l with
      | nil => intro c _ h; cases h
      | cons z l ih =>
        intro c hc hmem
        cases hc with | cons hz hs =>
        rcases List.mem_cons.1 hmem with e | e
        · subst e; exact ⟨[], l, [], _, _, rfl, rfl, .nil, hz, hs⟩
        · obtain ⟨u1, u2, u3, u4, u5, f1, f2, f3, f4, f5⟩ := ih hs e
          exact ⟨z :: u1, u2, _ :: u3, u4, u5, by rw [f1]; rfl, by rw [f2]; rfl, .cons hz f3, f4, f5⟩
    obtain ⟨p1, p2, d1, ex, d2, e1, e2, e3, e4, e5⟩ := split l2 hy
    have hidx : cs.findIdx? (fun e => (e.born : Int) == (n : Int)) = some d1.length := by
      rw [show cs = (d1 ++ ex :: d2).toArray by rw [← e2], List.findIdx?_toArray, List.findIdx?_append]
      have hno : d1.findIdx? (fun e => (e.born : Int) == (n : Int)) = none := by
        rw [List.findIdx?_eq_none_iff]
        intro z hz
        have hnd := c2.nodup
        rw [e2] at hnd
        have hzb : z.born ≠ ex.born := by
          intro heq
          rw [List.map_append, List.nodup_append] at hnd
          exact hnd.2.2 _ (List.mem_map_of_mem hz) ex.born (by simp) heq
        have hexn : ex.born = n := by rw [← e4.born, b2]
        rw [hexn] at hzb
        simp; omega
      have hexn : ex.born = n := by rw [← e4.born, b2]
      rw [hno]
      simp [List.findIdx?_cons, hexn]
    have hint : (asInt (.int k (n : Int))).run P w = .ok (n : Int) w := rfl
    have hrun : (Instr.entryStore tt (.map (some L.blk)) (.int k n) cv).run P w = .ok () { w with heap := w.heap.setIfInBounds L.blk (.map (cs.modify d1.length fun e => { e with val := cv }) ec.2) } := by
      unfold Instr.entryStore
      simp only [Sem.run_bind, run_getObj c1, Result.andThen_ok, hint, hidx]
      exact run_setObj c1
    simp only [Sem.run_bind, hrun, Result.andThen_ok, Sem.run_pure]
    refine .skip (ρ' := ρ) ?_
    have hcs' : (cs.modify d1.length fun e => { e with val := cv }).toList = d1 ++ { ex with val := cv } :: d2 := by
      rw [Array.toList_modify, e2, modify_mid]
    have hperm := l1
    rw [e1, b1] at hperm
    rw [e1] at hnod
    obtain ⟨f1, f2⟩ := perm_mid hperm hnod rfl
    refine Ext.putMap C.hr hget hL c1 ?_ (Nat.le_refl _) ?_
    · refine ⟨⟨p1 ++ { y with val := v } :: p2, ?_, ?_⟩, ?_, ?_⟩
      · rw [b3]
        exact List.perm_middle.trans ((List.Perm.cons _ f2).trans List.perm_middle.symm)
      · rw [hcs']
        exact e3.append (.cons ⟨e4.key, hv, e4.born⟩ e5)
      · intro z hz
        rw [hcs', List.mem_append, List.mem_cons] at hz
        rcases hz with hz | hz | hz
        · exact c2.old z (by rw [e2]; simp [hz])
        · subst hz; exact c2.old ex (by rw [e2]; simp)
        · exact c2.old z (by rw [e2]; simp [hz])
      · have := c2.nodup
        rw [e2] at this
        rw [hcs']
        simpa using this
    · intro _ z hz
      rw [hcs', List.mem_append, List.mem_cons] at hz
      rcases hz with hz | hz | hz
      · exact ⟨z, by rw [e2]; simp [hz], rfl⟩
      · subst hz; exact ⟨ex, by rw [e2]; simp, rfl⟩
      · exact ⟨z, by rw [e2]; simp [hz], rfl⟩
  · cases h7

theorem opMapEntry_ok {tt : TypeId} {x y : Operand} {nx : ANext} (h : opMapEntry E t S tt x y = .ok nx) :
    NextOK P ρ S w nx ((do pure (Next.value (← Instr.mapEntry tt (a.eval x) (a.eval y))) : Sem Next).run P w) := by
  unfold opMapEntry at h
  obtain ⟨m, h1, h2⟩ := R.bind_ok h
  obtain ⟨k, h3, h4⟩ := R.bind_ok h2
  obtain ⟨pr, h5, rfl⟩ := valS_ok h4
  have hm := C.o h1
  have hk := C.o h3
  generalize a.eval x = cm at hm
  generalize a.eval y = ck at hk
  unfold aMapEntry at h5
  obtain ⟨ke, g1, g2⟩ := R.bind_ok h5
  obtain ⟨ki, g3, g4⟩ := R.bind_ok g2
  obtain ⟨_, g5, g6⟩ := R.bind_ok g4
  have hp := R.guard_ok g5
  have hki := tiOf_ok C.env g3
  have hu := keyTypes_ok C.env g1 w
  have hck := checkKey_plain (P := P) (w := w) hki hp false ck
  split at g6
  · rename_i r
    obtain ⟨ec, g7, g8⟩ := R.bind_ok g6
    obtain ⟨f, g9, g10⟩ := R.bind_ok g8
    cases hm with | map hL =>
    rename_i L
    obtain ⟨hget, cs, c1, c2⟩ := mapOf_ok C.hr g7 hL
    obtain ⟨l, l1, l2⟩ := c2.ents
    obtain ⟨k1, k2, k3⟩ := findKey_ok C.env C.hr C.facts g3 g9 hk l1 l2
    cases f with
    | none =>
      have q0 : (zeroOf E ke.2).bind (fun z => R.ok ((.tup [z, .int .i64 (Int.ofNat ec.2)], S.put r (.map (insertKey ⟨k, z, ec.2⟩ ec.1) (ec.2 + 1))) : AV × St)) = .ok pr := g10
      obtain ⟨z, q1, q2⟩ := R.bind_ok q0
      cases q2
      unfold zeroOf at q1
      obtain ⟨i, q3, q4⟩ := R.bind_ok q1
      obtain ⟨cv, z1, z2, z3⟩ := (tiOf_ok C.env q3).run_zero (R.of_ok q4) w
      rw [firstHit_none l2 k2] at k1
      have hrun : (do pure (Next.value (← Instr.mapEntry tt (.map (some L.blk)) ck)) : Sem Next).run P w =
          .ok (.value (.tuple #[cv, goInt ec.2])) { w with heap := w.heap.setIfInBounds L.blk (.map (cs.push { key := ck, val := cv, born := ec.2 }) (ec.2 + 1)) } := by
        unfold Instr.mapEntry
        simp only [Sem.run_bind, hu, run_getObj c1, Result.andThen_ok, hck, k1, z1, run_setObj c1, Sem.run_pure]
      rw [hrun]
      refine .val (ρ' := ρ) ?_ (.tup (.cons (z3 ρ) (.cons .int .nil)))
      refine Ext.putMap C.hr hget hL c1 ?_ (by omega) (fun e => by omega)
      refine ⟨⟨l ++ [⟨k, z, ec.2⟩], ?_, ?_⟩, ?_, ?_⟩
      · refine List.Perm.trans ?_ (insertKey_perm _ _).symm
        exact (List.perm_append_singleton _ _).trans (l1.cons _)
      · rw [Array.toList_push]
        exact l2.append (.cons ⟨hk, z3 ρ, rfl⟩ .nil)
      · intro e he
        rw [Array.toList_push, List.mem_append] at he
        rcases he with he | he
        · have := c2.old e he; omega
        · simp at he; subst he; exact Nat.lt_succ_self _
      · rw [Array.toList_push, List.map_append, List.nodup_append]
        refine ⟨c2.nodup, by simp, ?_⟩
        intro a ha b hb
        simp at hb
        subst hb
        obtain ⟨e, he, rfl⟩ := List.mem_map.1 ha
        have := c2.old e he
        show e.born ≠ ec.2
        omega
    | some e =>
      have q0 : R.ok ((.tup [e.val, .int .i64 (Int.ofNat e.born)], S) : AV × St) = .ok pr := g10
      cases q0
      obtain ⟨p1, p2, d1, ex, d2, e1, e2, e3, e4, e5, e6, e7⟩ := firstHit_some (i := 0) l2 k2
      rw [e6] at k1
      have hke := k3 e (by rw [e1]; simp)
      rw [e7] at hke
      obtain ⟨s1, s2⟩ := keyEq_one C.env C.hr C.facts g3 hp hke hk e4.key
      have hat : cs[0 + d1.length]? = some ex := by rw [← Array.getElem?_toList, e2]; simp
      have hold : ((cs[0 + d1.length]?).map (·.key)).getD ck = ex.key := by rw [hat]; rfl
      have hborn : ((cs[0 + d1.length]?).map fun x => (x.born : Int)).getD 0 = (ex.born : Int) := by rw [hat]; rfl
      have hkt : (Instr.keyThatStays ex.key ck).run P w = .ok ck w := by
        unfold Instr.keyThatStays
        rw [← s1] at s2 ⊢
        rw [if_pos s2]; rfl
      have hsame : w.heap.setIfInBounds L.blk (.map (cs.modify (0 + d1.length) fun e => { e with key := ck }) ec.2) = w.heap := by
        have h1 : (cs.modify (0 + d1.length) fun e => { e with key := ck }) = cs := by
          apply Array.toList_inj.1
          rw [Array.toList_modify, e2, Nat.zero_add, modify_mid, s1]
        rw [h1]
        apply Array.ext_getElem?
        intro j
        rw [Array.getElem?_setIfInBounds]
        by_cases e : L.blk = j
        · subst e; rw [if_pos rfl, if_pos (C.hr.bound _ _ hL), c1]
        · rw [if_neg e]
      have hrun : (do pure (Next.value (← Instr.mapEntry tt (.map (some L.blk)) ck)) : Sem Next).run P w =
          .ok (.value (.tuple #[ex.val, goInt ex.born])) { w with heap := w.heap.setIfInBounds L.blk (.map (cs.modify (0 + d1.length) fun e => { e with key := ck }) ec.2) } := by
        unfold Instr.mapEntry
        simp only [Sem.run_bind, hu, run_getObj c1, Result.andThen_ok, hck, k1, hold, hborn, hkt, run_setObj c1, Sem.run_pure]
      rw [hrun]
      refine .val (ρ' := ρ) ?_ (.tup (.cons e4.val (.cons ?_ .nil)))
      · show Ext ρ S w.heap ρ S (w.heap.setIfInBounds L.blk _)
        rw [hsame]; exact Ext.refl C.hr
      · rw [← e4.born]; exact .int
  · cases g6

end
end Go.Ev

/- A verified evaluator. Part S28: built-ins. -/
namespace Go.Ev

/- Storing into a slice. -/
theorem storeInto_ok {P : Program} {ρ : Rho} {S S' : St} {w : World} (H : HR ρ S w.heap) {b o len cap : Nat} {c : ACap} {ad : Addr} {L : Loc} {vs : List AV} {cvs : List Value}
    (hs : S.store b o vs = .ok S') (hL : ρ.loc b = some L) (hc : capOk L o len c ad cap) (hv : VRs ρ vs cvs) (hz : cap = 0 → vs = []) :
    ∃ w', (storeCells ad cvs 0).run P w = .ok () w' ∧ Ext ρ S w.heap ρ S' w'.heap ∧ SameOs w w' := by
  rcases hc.2.1 with h0 | h0
  · have := hz h0; subst this
    cases hv
    have : S' = S := by unfold St.store at hs; cases hs; rfl
    subst this
    exact ⟨w, rfl, Ext.refl H, .refl w⟩
  · subst h0
    exact store_ok H hs hL hv

theorem max2A_ok {P : Program} {ρ : Rho} {w : World} {x y v : AV} {cx cy : Value} (h : max2A x y = .ok v) (hx : VR ρ x cx) (hy : VR ρ y cy) : ∃ c, (Builtin.max2 cx cy).run P w = .ok c w ∧ VR ρ v c := by
  unfold max2A at h
  split at h
  · cases h; cases hx; cases hy
    refine ⟨_, rfl, ?_⟩
    rw [intLt_ok]
    rename_i k a _ b
    by_cases hlt : a < b
    · simp only [hlt, decide_true, if_true]; exact .int
    · simp only [hlt, decide_false, if_false]; exact .int
  · cases h
    cases hx with | str e1 => cases hy with | str e2 =>
    rename_i a b s1 s2
    obtain ⟨c, r1, r2⟩ := aStr_ok (P := P) (w := w) (ρ := ρ) (op := .geq) (l := a) (m := b) (x := s1) (y := s2) (v := .bool (!(ltNats a b))) rfl e1 e2
    cases r2
    have hb : ∀ q : Bool, (asBool (.bool q)).run P w = .ok q w := fun _ => rfl
    cases hq : ltNats a b with
    | true =>
      rw [hq] at r1
      exact ⟨.string s2, by simp only [Builtin.max2, Sem.run_bind, r1, Result.andThen_ok, hb]; rfl, .str e2⟩
    | false =>
      rw [hq] at r1
      exact ⟨.string s1, by simp only [Builtin.max2, Sem.run_bind, r1, Result.andThen_ok, hb]; rfl, .str e1⟩
  · cases h

theorem leNats : ∀ a b : List Nat, (ltNats a b || eqNats a b) = !(ltNats b a)
  | [], [] => rfl
  | [], _ :: _ => rfl
  | _ :: _, [] => rfl
  | x :: a, y :: b => by
    have ih := leNats a b
    have hE : eqNats (x :: a) (y :: b) = (Nat.beq x y && eqNats a b) := by
      show Bool.rec (motive := fun _ => Bool) false (eqNats a b) (Nat.beq x y) = _
      cases Nat.beq x y <;> rfl
    rw [hE]
    simp only [ltNats]
    rcases Nat.lt_trichotomy x y with h | h | h
    · have h1 : Nat.blt x y = true := by rw [Nat.blt_eq]; exact h
      have h2 : Nat.blt y x = false := by cases q : Nat.blt y x with | false => rfl | true => rw [Nat.blt_eq] at q; omega
      have h3 : Nat.beq y x = false := nbeq (by omega)
      simp [h1, h2, h3]
    · subst h
      have h2 : Nat.blt x x = false := by cases q : Nat.blt x x with | false => rfl | true => rw [Nat.blt_eq] at q; omega
      simp only [h2, Nat.beq_refl, Bool.true_and]; exact ih
    · have h1 : Nat.blt y x = true := by rw [Nat.blt_eq]; exact h
      have h2 : Nat.blt x y = false := by cases q : Nat.blt x y with | false => rfl | true => rw [Nat.blt_eq] at q; omega
      have h3 : Nat.beq x y = false := nbeq (by omega)
      simp [h1, h2, h3]

theorem min2A_ok {P : Program} {ρ : Rho} {w : World} {x y v : AV} {cx cy : Value} (h : min2A x y = .ok v) (hx : VR ρ x cx) (hy : VR ρ y cy) : ∃ c, (Builtin.min2 cx cy).run P w = .ok c w ∧ VR ρ v c := by
  unfold min2A at h
  split at h
  · cases h; cases hx; cases hy
    refine ⟨_, rfl, ?_⟩
    rw [intLt_ok]
    rename_i k a _ b
    by_cases hlt : b < a
    · simp only [hlt, decide_true, if_true]; exact .int
    · simp only [hlt, decide_false, if_false]; exact .int
  · cases h
    cases hx with | str e1 => cases hy with | str e2 =>
    rename_i a b s1 s2
    have hle : (ltNats a b || eqNats a b) = !(ltNats b a) := leNats a b
    obtain ⟨c, r1, r2⟩ := aStr_ok (P := P) (w := w) (ρ := ρ) (op := .leq) (l := a) (m := b) (x := s1) (y := s2) (v := .bool (ltNats a b || eqNats a b)) rfl e1 e2
    cases r2
    have hb : ∀ q : Bool, (asBool (.bool q)).run P w = .ok q w := fun _ => rfl
    rw [hle] at r1
    cases hq : ltNats b a with
    | true =>
      rw [hq] at r1
      exact ⟨.string s2, by simp only [Builtin.min2, Sem.run_bind, r1, Result.andThen_ok, hb]; rfl, .str e2⟩
    | false =>
      rw [hq] at r1
      exact ⟨.string s1, by simp only [Builtin.min2, Sem.run_bind, r1, Result.andThen_ok, hb]; rfl, .str e1⟩
  · cases h

theorem foldA_ok {P : Program} {ρ : Rho} {w : World} {f : AV → AV → R AV} {g : Value → Value → Sem Value} (hf : ∀ {x y v : AV} {cx cy : Value}, f x y = .ok v → VR ρ x cx → VR ρ y cy → ∃ c, (g cx cy).run P w = .ok c w ∧ VR ρ v c) :
    ∀ {r : List AV} {cr : List Value} {x v : AV} {cx : Value}, foldA f x r = .ok v → VR ρ x cx → VRs ρ r cr → ∃ c, (cr.foldlM g cx : Sem Value).run P w = .ok c w ∧ VR ρ v c := by
  intro r
  induction r with
  | nil => intro cr x v cx h hx hr; cases hr; cases h; exact ⟨cx, rfl, hx⟩
  | cons y r ih =>
    intro cr x v cx h hx hr
    cases hr with | cons hy hr =>
    obtain ⟨z, h1, h2⟩ := R.bind_ok h
    obtain ⟨c, r1, r2⟩ := hf h1 hx hy
    obtain ⟨c2, r3, r4⟩ := ih h2 r2 hr
    refine ⟨c2, ?_, r4⟩
    simp only [List.foldlM_cons, Sem.run_bind, r1, Result.andThen_ok, r3]

section
variable {P : Program} {E : Env} {ρ : Rho} {S : St} {w : World} {t : T AV} {nt : Nat} {a : Act} (C : Ctx P E ρ S w t nt a)
include C

theorem lenV_ok {tt : TypeId} {x : AV} {cx : Value} {n : Nat} (h : lenB E S tt x = .ok n) (hx : VR ρ x cx) {ts : Array TypeId} (hts : ts[0]? = some tt) (type : TypeId) :
    (Builtin.len_ ts type #[cx]).run P w = .ok (goInt n) w := by
  unfold lenB lenKindOf at h
  cases ht : tiOf E tt with
  | bad q => rw [ht] at h; cases h
  | ok i =>
    rw [ht] at h
    simp only at h
    have hu := (tiOf_ok C.env ht).run_und w
    have ha0 : (#[cx] : Array Value)[0]? = some cx := rfl
    unfold lenKind at h
    unfold Builtin.len_
    simp only [hts, ha0, Sem.run_bind, hu, Result.andThen_ok]
    split at h
    · rename_i hd
      rw [hd]
      unfold lenV at h
      simp only at h
      split at h
      · cases h; cases hx with | str e => rename_i s; subst e; rw [bytesOf_length]; rfl
      · cases h
    · rename_i hd
      rw [hd]
      unfold lenV at h
      simp only at h
      split at h
      · cases h; cases hx; rfl
      · cases h; cases hx; rfl
      · cases h
    · rename_i k e hd
      rw [hd]
      unfold lenV at h
      simp only at h
      split at h
      · cases h; cases hx; rfl
      · obtain ⟨ec, g1, g2⟩ := R.map_ok h
        subst g2
        cases hx with | map hL =>
        rename_i L
        obtain ⟨_, cs, c1, c2⟩ := mapOf_ok C.hr g1 hL
        obtain ⟨l, l1, l2⟩ := c2.ents
        simp only [Sem.run_bind, run_getObj c1, Result.andThen_ok, Sem.run_pure]
        have : ec.1.length = cs.size := by rw [← l1.length_eq, l2.length]; simp
        rw [this]
      · cases h
    · rename_i m e hd
      rw [hd]
      unfold lenV at h
      cases h
      cases cx <;> rfl
    · rename_i e hd
      rw [hd]
      cases hj : tiOf E e with
      | bad q => rw [hj] at h; cases h
      | ok j =>
        rw [hj] at h
        simp only at h
        have hv := (tiOf_ok C.env hj).run_und w
        split at h
        · rename_i m e' hd2
          rw [hd2] at hv
          cases h
          cases cx <;> simp only [Sem.run_bind, hv, Result.andThen_ok, Sem.run_pure]
        · cases h
    · cases h

theorem aCap_ok {tt : TypeId} {x v : AV} {cx : Value} (h : aCap E tt x = .ok v) (hx : VR ρ x cx) {ts : Array TypeId} (hts : ts[0]? = some tt) (type : TypeId) :
    ∃ c, (Builtin.cap_ ts type #[cx]).run P w = .ok c w ∧ VR ρ v c := by
  unfold aCap at h
  obtain ⟨i, h1, h2⟩ := R.bind_ok h
  have hu := (tiOf_ok C.env h1).run_und w
  have ha0 : (#[cx] : Array Value)[0]? = some cx := rfl
  unfold Builtin.cap_
  simp only [hts, ha0, Sem.run_bind, hu, Result.andThen_ok]
  split at h2
  · rename_i hd
    rw [hd]; cases h2; cases hx
    exact ⟨_, rfl, .int⟩
  · rename_i hd
    rw [hd]; cases h2
    cases hx with | slice hL hc =>
    have := hc.2.2
    simp only at this
    subst this
    exact ⟨_, rfl, .int⟩
  · cases h2

theorem aCopy_ok {tt : TypeId} {d x v : AV} {cd cx : Value} {S' : St} (h : aCopy E S tt d x = .ok (v, S')) (hd : VR ρ d cd) (hx : VR ρ x cx) {ts : Array TypeId} (hts : ts[0]? = some tt) (type : TypeId) :
    ∃ c w', (Builtin.copy_ ts type #[cd, cx]).run P w = .ok c w' ∧ VR ρ v c ∧ Ext ρ S w.heap ρ S' w'.heap ∧ SameOs w w' := by
  unfold aCopy at h
  obtain ⟨ei, h1, h2⟩ := R.bind_ok h
  obtain ⟨m, h3, h4⟩ := R.bind_ok h2
  obtain ⟨dl, h5, h6⟩ := R.bind_ok h4
  obtain ⟨cs, h7, h8⟩ := R.bind_ok h6
  obtain ⟨S2, h9, h10⟩ := R.bind_ok h8
  cases h10
  obtain ⟨u1, u2⟩ := elemT_ok C.env h1
  have hu : (underlying tt).run P w = .ok (.slice ei.1) w := by
    unfold underlying
    simp [u1]
  have hlen := lenA_ok (P := P) h3 hx w
  have hsz := u2.run_size w
  obtain ⟨cl, c1, c2, c3⟩ := firstCells_ok (P := P) C.hr h7 hx h3 (Nat.min_le_left _ _)
  have ha0 : (#[cd, cx] : Array Value)[0]? = some cd := rfl
  have ha1 : (#[cd, cx] : Array Value)[1]? = some cx := rfl
  unfold Builtin.copy_
  simp only [hts, ha0, ha1, Sem.run_bind, hu, Result.andThen_ok]
  unfold storeInto at h9
  split at h9
  · cases h9
    cases hd
    have hdl : dl = 0 := by simp [lenA] at h5; exact h5.symm
    subst hdl
    refine ⟨goInt ((Nat.min m 0 : Nat) : Int), w, ?_, .int, Ext.refl C.hr, .refl w⟩
    have := c2 w rfl
    simp only [Sem.run_bind, hlen, hsz, this, Result.andThen_ok, Sem.run_pure]
  · rename_i b o len c
    cases hd with | slice hL hc =>
    rename_i cap ad L
    have hdl : dl = len := by simp [lenA] at h5; exact h5.symm
    subst hdl
    obtain ⟨w', r1, r2, ro⟩ := storeInto_ok (P := P) C.hr h9 hL hc c1 (fun h0 => by
      have : dl = 0 := by have := hc.1; omega
      subst this
      have hl : cs.length = 0 := by rw [c1.length, c3]; simp
      exact List.length_eq_zero_iff.1 hl)
    refine ⟨goInt ((Nat.min m dl : Nat) : Int), w', ?_, .int, r2, ro⟩
    have := c2 w rfl
    simp only [Sem.run_bind, hlen, hsz, this, Result.andThen_ok, Sem.run_pure, r1]
  · cases h9

theorem aClear_ok {tt : TypeId} {x : AV} {cx : Value} {S' : St} (h : aClear E S tt x = .ok S') (hx : VR ρ x cx) {ts : Array TypeId} (hts : ts[0]? = some tt) (type : TypeId) :
    ∃ w', (Builtin.clear_ ts type #[cx]).run P w = .ok (.tuple #[]) w' ∧ Ext ρ S w.heap ρ S' w'.heap ∧ SameOs w w' := by
  unfold aClear at h
  obtain ⟨i, h1, h2⟩ := R.bind_ok h
  have hu := (tiOf_ok C.env h1).run_und w
  have ha0 : (#[cx] : Array Value)[0]? = some cx := rfl
  unfold Builtin.clear_
  simp only [hts, ha0, Sem.run_bind, hu, Result.andThen_ok]
  split at h2
  · cases h2; cases hx; exact ⟨w, rfl, Ext.refl C.hr, .refl w⟩
  · cases h2; cases hx; exact ⟨w, rfl, Ext.refl C.hr, .refl w⟩
  · obtain ⟨ec, g1, g2⟩ := R.bind_ok h2
    cases g2
    cases hx with | map hL =>
    rename_i r L
    obtain ⟨hget, cs, c1, c2⟩ := mapOf_ok C.hr g1 hL
    refine ⟨{ w with heap := w.heap.setIfInBounds L.blk (.map #[] ec.2) }, ?_, ?_, ⟨rfl, rfl, rfl⟩⟩
    · cases i.desc <;> simp only [Sem.run_bind, run_getObj c1, Result.andThen_ok, run_setObj c1, Sem.run_pure]
    · exact Ext.putMap (cs' := #[]) C.hr hget hL c1 ⟨⟨[], .nil, .nil⟩, by simp, by simp⟩ (Nat.le_refl _) (fun _ e he => by simp at he)
  · rename_i b o n c
    cases hx with | slice hL hc =>
    rename_i cap ad L
    split at h2
    · cases h2
      exact ⟨w, by cases i.desc <;> rfl, Ext.refl C.hr, .refl w⟩
    · rename_i n
      obtain ⟨ei, g1, g2⟩ := R.bind_ok h2
      obtain ⟨z, g3, g4⟩ := R.bind_ok g2
      obtain ⟨u1, u2⟩ := elemT_ok C.env g1
      have hdesc : i.desc = .slice ei.1 := by
        have := (tiOf_ok C.env h1).und
        rw [u1] at this; injection this with this; exact this.symm
      rw [hdesc]
      obtain ⟨v, z1, z2, z3⟩ := u2.run_zero (R.of_ok g3) w
      obtain ⟨w', r1, r2, ro⟩ := storeInto_ok (P := P) C.hr g4 hL hc (rep_zero (z3 ρ).cells (n + 1)) (fun h0 => by have := hc.1; omega)
      refine ⟨w', ?_, r2, ro⟩
      simp only [Sem.run_bind, z1, Result.andThen_ok, r1, Sem.run_pure]
  · cases h2

end
end Go.Ev

/- A verified evaluator. Part S29: unsafe.String; the built-ins together. -/
namespace Go.Ev

theorem liesAt_row {P : Program} {e : TypeId} (hc : P.cellsOf e = 1) (count off n : Nat) (hn : off + n ≤ count) : liesAt P P.depth e count off e n = true := by
  have hd : P.depth = (2 * (P.types.size + Made.depth) + 1) + 1 := rfl
  rw [hd]
  simp only [liesAt, Bool.or_eq_true]
  left
  rw [hd]
  simp [rowAt, hc, hn, sameLayout]
  exact .inl (Nat.mod_one off)

theorem frozen_more {L : Loc} {fr : Nat} {plain : Bool} {f : Nat × Nat} {o n : Nat} (h : frozenOk L fr plain L.N f) (hg : (plain || Nat.blt 0 fr) = true) :
    frozenOk L (max fr (o + n)) false L.N (if f.1 == f.2 then (L.sh + o, L.sh + o + n) else (min f.1 (L.sh + o), max f.2 (L.sh + o + n))) := by
  obtain ⟨h1, h2, h3⟩ := h
  have hor : f.1 = f.2 ∨ 0 < fr := by
    cases plain with
    | true => exact .inl (h2 rfl).1
    | false => simp [Nat.blt_eq] at hg; exact .inr hg
  by_cases e : f.1 = f.2
  · rw [if_pos (by simpa using e)]
    refine ⟨fun j a b => .inl ?_, (fun h => by cases h), fun _ => ?_⟩
    · simp only at b; omega
    · show L.sh + o + n ≤ _; omega
  · rw [if_neg (by simpa using e)]
    have hfr : 0 < fr := hor.resolve_left e
    have := h3 hfr
    refine ⟨fun j a b => .inl ?_, (fun h => by cases h), fun _ => ?_⟩
    · simp only at b; omega
    · show max f.2 (L.sh + o + n) ≤ _; omega

theorem VRs.one {ρ : Rho} {x : AV} {l : List Value} (h : VRs ρ [x] l) : ∃ c, l = [c] ∧ VR ρ x c := by
  cases h with
  | cons h hs => cases hs; exact ⟨_, rfl, h⟩

theorem VRs.two {ρ : Rho} {x y : AV} {l : List Value} (h : VRs ρ [x, y] l) : ∃ c d, l = [c, d] ∧ VR ρ x c ∧ VR ρ y d := by
  cases h with
  | cons h hs => obtain ⟨d, rfl, hd⟩ := hs.one; exact ⟨_, d, rfl, h, hd⟩

theorem VRs.head {ρ : Rho} {x : AV} {r : List AV} {l : List Value} (h : VRs ρ (x :: r) l) : ∃ c cr, l = c :: cr ∧ VR ρ x c ∧ VRs ρ r cr := by
  cases h with
  | cons h hs => exact ⟨_, _, rfl, h, hs⟩

section
variable {P : Program} {E : Env} {ρ : Rho} {S : St} {w : World} {t : T AV} {nt : Nat} {a : Act} (C : Ctx P E ρ S w t nt a)
include C

theorem freezeA_ok {b o n : Nat} {S' : St} {L : Loc} (h : S.freezeA b o n = .ok S') (hL : ρ.loc b = some L) (hn : 0 < n) : Ext ρ S w.heap ρ S' (w.freeze ⟨L.blk, L.sh + o, none⟩ n).heap := by
  unfold St.freezeA at h
  split at h
  · rename_i cs size elem ro g fr plain hb
    split at h
    · rename_i h1 h2 h3
      cases h
      have h2' := Nat.le_of_ble_eq_true h2
      obtain ⟨L', e1, e2⟩ := C.hr.objs b _ hb
      rw [hL] at e1; injection e1 with e1; subst e1
      have hlt := e2.lt
      cases e2 with | cells at_ hN hsz vals frz =>
      rename_i c f
      obtain ⟨ha, hab, han, hal, hsub⟩ := Ext.alone C.hr b g
      have hb' : (S.alone b g).heap.get b = some (.cells cs size elem false g fr plain) := by rw [hab, hb]
      have hheap : (w.freeze ⟨L.blk, L.sh + o, none⟩ n).heap = w.heap.setIfInBounds L.blk (.cells c elem (if f.1 == f.2 then (L.sh + o, L.sh + o + n) else (min f.1 (L.sh + o), max f.2 (L.sh + o + n)))) := by
        unfold World.freeze
        rw [if_neg (by omega)]
        apply Array.ext_getElem?
        intro k
        simp only [Array.getElem?_modify, Array.getElem?_setIfInBounds]
        by_cases e : L.blk = k
        · subst e; rw [if_pos rfl, if_pos rfl, if_pos hlt, at_]
          obtain ⟨lo, hi⟩ := f
          rfl
        · rw [if_neg e, if_neg e]
      rw [hheap]
      refine ha.trans (Ext.put ha.hr hb' rfl hL rfl ?_ rfl ?_ .cells)
      · refine .cells (c := c) ?_ hN hsz vals (frozen_more frz h3)
        rw [Array.getElem?_setIfInBounds, if_pos rfl, if_pos hlt]
      · intro b' o2 g' hne e2 g1 g2
        have g1' : some g = some g' := g1
        injection g1' with g1'
        subst g1'
        exact hal _ hb rfl b' o2 hne e2 g2
    · cases h
  · cases h

theorem aUnsafeString_ok {pT : TypeId} {p n v : AV} {cp cn : Value} {S' : St} (h : aUnsafeString E S pT p n = .ok (v, S')) (hp : VR ρ p cp) (hn : VR ρ n cn) {ts : Array TypeId} (hts : ts[0]? = some pT) (type : TypeId) :
    ∃ c w', (Builtin.unsafeString_ ts type #[cp, cn]).run P w = .ok c w' ∧ VR ρ v c ∧ Ext ρ S w.heap ρ S' w'.heap ∧ SameOs w w' := by
  unfold aUnsafeString at h
  obtain ⟨m, h1, h2⟩ := R.bind_ok h
  obtain ⟨k, rfl⟩ := asN_ok h1 hn
  have hint : (asInt (.int k (m : Int))).run P w = .ok (m : Int) w := rfl
  have hmax : IntKind.i64.max = 9223372036854775807 := rfl
  split at h2
  · -- no byte
    have key : ∀ q : Option Addr, (Builtin.unsafeString_ ts type #[.pointer q, .int k ((0 : Nat) : Int)]).run P w = .ok (.string .empty) w := by
      intro q
      have hdef : Builtin.unsafeString_ ts type #[.pointer q, .int k ((0 : Nat) : Int)] =
        (do
          let n ← asInt (.int k ((0 : Nat) : Int))
          let some pt := ts[0]? | stuck "unsafe.String: no argument types"
          if n < 0 then runtimePanic (.error "unsafe.String: len out of range")
          if n > IntKind.i64.max then unsupported (.unsafePointer "String: a length above the largest int")
          match q with
          | none =>
            if n = 0 then pure (.string .empty)
            else runtimePanic (.error "unsafe.String: ptr is nil and len is not zero")
          | some a =>
            if n = 0 then pure (.string .empty)
            else if ← variablesAt a (← elemOf pt) n.toNat then do
              let s ← loadBytes a .empty n.toNat
              freeze a n.toNat
              pure (.string s)
            else unsupported (.unsafePointer "String: not so many bytes at ptr")) := rfl
      rw [hdef]
      cases q <;> simp [hts, hmax, asInt, asIntOf]
    split at h2
    · cases h2; cases hp
      exact ⟨_, w, key none, .str rfl, Ext.refl C.hr, .refl w⟩
    · cases h2; cases hp
      exact ⟨_, w, key _, .str rfl, Ext.refl C.hr, .refl w⟩
    · cases h2
  · rename_i m
    split at h2
    · rename_i b o
      cases hp with | ptr hL =>
      rename_i L
      obtain ⟨i, h3, h4⟩ := R.bind_ok h2
      have hu := (tiOf_ok C.env h3).run_und w
      split at h4
      · rename_i e cs size elem ro g fr plain hd hb
        obtain ⟨j, h5, h6⟩ := R.bind_ok h4
        split at h6
        · rename_i hg
          simp only [Bool.and_eq_true] at hg
          obtain ⟨⟨g1, g2⟩, g3⟩ := hg
          have he := Nat.eq_of_beq_eq_true g1
          subst he
          have hj1 := Nat.eq_of_beq_eq_true g2
          have hmle := Nat.le_of_ble_eq_true g3
          obtain ⟨l, h7, h8⟩ := R.bind_ok h6
          obtain ⟨s, h9, h10⟩ := R.bind_ok h8
          obtain ⟨S2, h11, h12⟩ := R.bind_ok h10
          cases h12
          obtain ⟨cs2, c1, c2, c3, c4⟩ := load_ok (P := P) C.hr h7 hL
          obtain ⟨b1, b2⟩ := bytesA_ok h9 c1
          have hE := freezeA_ok C h11 hL (Nat.succ_pos m)
          obtain ⟨L', e1, e2⟩ := C.hr.objs b _ hb
          rw [hL] at e1; injection e1 with e1; subst e1
          have hslen : s.length = m + 1 := by rw [b2] at c2; simpa using c2
          obtain ⟨inf, i1, i2, i3, i4⟩ := (tiOf_ok C.env h5).info
          have hcells : P.cellsOf e = 1 := by
            unfold Program.cellsOf
            rw [i1]; simp [i2, hj1]
          have hbound : L.sh + o + (m + 1) ≤ L.N := by
            have : S.load b o (m + 1) = .ok l := h7
            unfold St.freezeA at h11
            rw [hb] at h11
            simp only at h11
            split at h11
            · rename_i q1 q2 q3
              have := Nat.le_of_ble_eq_true q2
              cases e2 with | cells at_ hN hsz vals frz => omega
            · cases h11
          cases e2 with | cells at_ hN hsz vals frz =>
          rename_i c f
          have hsh : w.shape? L.blk = some (e, c.size) := by simp [World.shape?, at_]
          have hlies : liesAt P P.depth e (c.size / P.cellsOf e) (L.sh + o) e (m + 1) = true :=
            liesAt_row hcells _ _ _ (by rw [hcells, hN]; simpa using hbound)
          have hlb := Lib.run_loadBytes (P := P) w (s.map UInt8.ofNat) ⟨L.blk, L.sh + o, none⟩ .empty (fun q x hx => by
            rw [Addr.add_none]
            have hq : q < m + 1 := by
              have := (List.getElem?_eq_some_iff.1 hx).1
              simp at this; omega
            rw [c3 q hq, b2]
            rw [List.getElem?_map] at hx ⊢
            have hq2 : q < s.length := by omega
            rw [List.getElem?_eq_getElem hq2] at hx ⊢
            simp only [Option.map_some, Option.some.injEq] at hx ⊢
            subst hx
            have := b1 s[q] (List.getElem_mem hq2)
            rw [UInt8.toNat_ofNat', Nat.mod_eq_of_lt this])
          rw [List.length_map, hslen] at hlb
          refine ⟨.string ⟨ByteArray.empty.data ++ (s.map UInt8.ofNat).toArray⟩, w.freeze ⟨L.blk, L.sh + o, none⟩ (m + 1), ?_, .str ?_, hE, ⟨rfl, rfl, rfl⟩⟩
          · rw [hd] at hu
            have n1 : ¬ (((m + 1 : Nat) : Int) < 0) := by omega
            have n2 : ¬ (((m + 1 : Nat) : Int) > IntKind.i64.max) := by rw [hmax]; omega
            have n3 : ¬ (((m + 1 : Nat) : Int) = 0) := by omega
            have hel : (elemOf pT).run P w = .ok e w := by
              simp only [elemOf, Sem.run_bind, hu, Result.andThen_ok, Sem.run_pure]
            have hvar : (variablesAt ⟨L.blk, L.sh + o, none⟩ e (m + 1)).run P w = .ok true w := by
              have hshape : (shape L.blk).run P w = .ok (some (e, c.size)) w := by
                have : (shape L.blk).run P w = .ok (w.shape? L.blk) w := rfl
                rw [this, hsh]
              simp only [variablesAt, Sem.run_bind, run_program, hshape, Result.andThen_ok, hlies, Sem.run_pure]
            have hfr : (freeze ⟨L.blk, L.sh + o, none⟩ (m + 1)).run P w = .ok () (w.freeze ⟨L.blk, L.sh + o, none⟩ (m + 1)) := rfl
            have hto : ((m + 1 : Nat) : Int).toNat = m + 1 := rfl
            have hdef : Builtin.unsafeString_ ts type #[.pointer (some ⟨L.blk, L.sh + o, none⟩), .int k ((m + 1 : Nat) : Int)] =
              (do
                let n ← asInt (.int k ((m + 1 : Nat) : Int))
                let some pt := ts[0]? | stuck "unsafe.String: no argument types"
                if n < 0 then runtimePanic (.error "unsafe.String: len out of range")
                if n > IntKind.i64.max then unsupported (.unsafePointer "String: a length above the largest int")
                if n = 0 then pure (.string .empty)
                else if ← variablesAt ⟨L.blk, L.sh + o, none⟩ (← elemOf pt) n.toNat then do
                  let s ← loadBytes ⟨L.blk, L.sh + o, none⟩ .empty n.toNat
                  freeze ⟨L.blk, L.sh + o, none⟩ n.toNat
                  pure (.string s)
                else unsupported (.unsafePointer "String: not so many bytes at ptr")) := rfl
            refine (congrArg (fun s => Sem.run P s w) hdef).trans ?_
            simp only [Sem.run_bind, hint, Result.andThen_ok, hts, n1, n2, n3, if_false, hel, hto, hvar, if_true, hlb, hfr, Sem.run_pure]
          · have : ∀ s : List Nat, (∀ n ∈ s, n < 256) → (s.map UInt8.ofNat).map (·.toNat) = s := by
              intro s hs
              induction s with
              | nil => rfl
              | cons x s ih =>
                have := hs x (by simp)
                simp only [List.map_cons, UInt8.toNat_ofNat', ih (fun n hn => hs n (by simp [hn]))]
                rw [Nat.mod_eq_of_lt this]
            have := this s b1
            simpa [bytesOf] using this
        · cases h6
      · cases h4
    · cases h2

theorem val2 {r : R (AV × St)} {nx : ANext} (h : (r.bind fun p => (R.ok (.val p.1 p.2) : R ANext)) = .ok nx) : ∃ v S', r = .ok (v, S') ∧ nx = .val v S' := by
  have _ := C
  obtain ⟨⟨v, S'⟩, h1, h2⟩ := R.bind_ok h
  cases h2; exact ⟨v, S', h1, rfl⟩

theorem aBuiltin_ok {b : Builtin} {ts : Array TypeId} {args : List AV} {cargs : Array Value} {nx : ANext} (h : aBuiltin E S b ts.toList args = .ok nx) (ha : VRs ρ args cargs.toList) (type : TypeId) (consts : Array Bool) :
    NextOK P ρ S w nx ((builtin b ts type consts cargs).run P w) := by
  have out : ∀ {s : Sem Value} {v : AV} {S' : St}, (∃ ρ' w' cv, s.run P w = .ok cv w' ∧ VR ρ' v cv ∧ Ext ρ S w.heap ρ' S' w'.heap ∧ SameOs w w') → NextOK P ρ S w (.val v S') ((do pure (Next.value (← s)) : Sem Next).run P w) := by
    rintro s v S' ⟨ρ', w', cv, r1, r2, r3, ro⟩
    simp only [Sem.run_bind, r1, Result.andThen_ok, Sem.run_pure]
    exact .val r3 r2 ro
  obtain ⟨tl⟩ := ts
  obtain ⟨al⟩ := cargs
  simp only at h ha
  unfold aBuiltin at h
  simp only at h
  split at h
  · obtain ⟨v, S', h1, rfl⟩ := val2 C h
    obtain ⟨_, _, rfl, h1', h2'⟩ := ha.two
    exact out (aAppend_ok C.env C.hr h1 rfl rfl h1' h2')
  · obtain ⟨v, h1, h2⟩ := R.bind_ok h
    cases h2
    obtain ⟨_, rfl, h1'⟩ := ha.one
    obtain ⟨c, r1, r2⟩ := aCap_ok C h1 h1' (ts := (_ :: _ : List TypeId).toArray) rfl type
    exact out ⟨ρ, w, c, r1, r2, Ext.refl C.hr, .refl w⟩
  · obtain ⟨n, h1, h2⟩ := R.bind_ok h
    cases h2
    obtain ⟨_, rfl, h1'⟩ := ha.one
    exact out ⟨ρ, w, _, lenV_ok C h1 h1' (ts := (_ :: _ : List TypeId).toArray) rfl type, .int, Ext.refl C.hr, .refl w⟩
  · obtain ⟨v, S', h1, rfl⟩ := val2 C h
    obtain ⟨_, _, rfl, h1', h2'⟩ := ha.two
    obtain ⟨c, w', r1, r2, r3, ro⟩ := aCopy_ok C h1 h1' h2' (ts := (_ :: _ : List TypeId).toArray) rfl type
    exact out ⟨ρ, w', c, r1, r2, r3, ro⟩
  · obtain ⟨S', h1, h2⟩ := R.bind_ok h
    cases h2
    obtain ⟨_, rfl, h1'⟩ := ha.one
    obtain ⟨w', r1, r2, ro⟩ := aClear_ok C h1 h1' (ts := (_ :: _ : List TypeId).toArray) rfl type
    exact out ⟨ρ, w', _, r1, .tup .nil, r2, ro⟩
  · obtain ⟨S', h1, h2⟩ := R.bind_ok h
    cases h2
    obtain ⟨_, _, rfl, h1', h2'⟩ := ha.two
    obtain ⟨w', r1, r2, ro⟩ := aDelete_ok C h1 h1' h2' (ts := (_ :: _ : List TypeId).toArray) rfl type
    exact out ⟨ρ, w', _, r1, .tup .nil, r2, ro⟩
  · obtain ⟨v, h1, h2⟩ := R.bind_ok h
    cases h2
    obtain ⟨_, _, rfl, h1', ha⟩ := ha.head
    obtain ⟨c, r1, r2⟩ := foldA_ok (P := P) (w := w) (g := Builtin.max2) max2A_ok h1 h1' ha
    exact out ⟨ρ, w, c, r1, r2, Ext.refl C.hr, .refl w⟩
  · obtain ⟨v, h1, h2⟩ := R.bind_ok h
    cases h2
    obtain ⟨_, _, rfl, h1', ha⟩ := ha.head
    obtain ⟨c, r1, r2⟩ := foldA_ok (P := P) (w := w) (g := Builtin.min2) min2A_ok h1 h1' ha
    exact out ⟨ρ, w, c, r1, r2, Ext.refl C.hr, .refl w⟩
  · obtain ⟨_, rfl, h1'⟩ := ha.one
    split at h
    · cases h
      have h1'' := h1'
      cases h1' with | iface q =>
      exact .pan (ρ' := ρ) (Ext.refl C.hr) h1''
    · cases h
  · cases h; exact .recover
  · obtain ⟨_, rfl, h1'⟩ := ha.one
    split at h
    · cases h; cases h1'
      exact out ⟨ρ, w, _, rfl, .pnil, Ext.refl C.hr, .refl w⟩
    · cases h
      cases h1' with | slice hL hc =>
      rename_i cap ad L
      obtain ⟨k, rfl⟩ : ∃ k, cap = k + 1 := ⟨cap - 1, by have := hc.1; omega⟩
      have := hc.2.1.resolve_left (by omega)
      subst this
      exact out ⟨ρ, w, .pointer (some ⟨L.blk, _, none⟩), rfl, .ptr hL, Ext.refl C.hr, .refl w⟩
    · cases h
  · obtain ⟨v, S', h1, rfl⟩ := val2 C h
    obtain ⟨_, _, rfl, h1', h2'⟩ := ha.two
    obtain ⟨c, w', r1, r2, r3, ro⟩ := aUnsafeString_ok C h1 h1' h2' (ts := (_ :: _ : List TypeId).toArray) rfl type
    exact out ⟨ρ, w', c, r1, r2, r3, ro⟩
  · cases h

end
end Go.Ev

/- A verified evaluator. Part S30: calls. -/
namespace Go.Ev

theorem idxA_ok (c : Nat) (b : ByteArray) (hc : c < 256) : ∀ (n i : Nat), i + n = b.size → idxA c ((bytesOf b).drop i) i =
    (match (List.range' i n).find? (fun i => b[i]! == UInt8.ofNat c) with | some i => (i : Int) | none => -1) := by
  intro n
  induction n with
  | zero =>
    intro i h
    rw [List.drop_eq_nil_of_le (by rw [bytesOf_length]; omega)]
    rfl
  | succ n ih =>
    intro i h
    have hlt : i < (bytesOf b).length := by rw [bytesOf_length]; omega
    rw [List.drop_eq_getElem_cons hlt]
    have hget : (bytesOf b)[i] = (b[i]!).toNat := by
      have hs : i < b.size := by omega
      rw [getElem!_pos b i hs]
      simp [bytesOf]
      rfl
    rw [List.range'_succ, List.find?_cons]
    unfold idxA
    have hiff : Nat.beq (bytesOf b)[i] c = (b[i]! == UInt8.ofNat c) := by
      rw [hget, Bool.eq_iff_iff, Nat.beq_eq, beq_iff_eq]
      constructor
      · intro h; rw [← h]; simp
      · intro h; rw [h, UInt8.toNat_ofNat', Nat.mod_eq_of_lt hc]
    rw [hiff]
    cases b[i]! == UInt8.ofNat c with
    | true => rfl
    | false => exact ih (i + 1) (by omega)

theorem idxA_range (c : Nat) (b : ByteArray) (hc : c < 256) : idxA c (bytesOf b) 0 =
    (match (List.range b.size).find? (fun i => b[i]! == UInt8.ofNat c) with | some i => (i : Int) | none => -1) := by
  have := idxA_ok c b hc b.size 0 (by omega)
  rw [List.drop_zero] at this
  rw [this, List.range_eq_range']

section
variable {P : Program} {E : Env} {ρ : Rho} {S : St} {w : World} {t : T AV} {nt : Nat} {a : Act} (C : Ctx P E ρ S w t nt a)
include C

theorem aCallFunc_ok {f : FuncId} {args : List AV} {cargs : Array Value} {nx : ANext} (h : aCallFunc E S f args = .ok nx) (ha : VRs ρ args cargs.toList) :
    NextOK P ρ S w nx ((callFunc f cargs).run P w) := by
  unfold aCallFunc at h
  obtain ⟨fn, h1, h2⟩ := R.bind_ok h
  have hf := C.env.funcs f fn (R.of_ok h1)
  obtain ⟨hp, hm⟩ := hf
  split at h2
  · rename_i e he
    rw [he] at hm
    obtain ⟨v, h3, h4⟩ := R.bind_ok h2
    cases h4
    obtain ⟨cl⟩ := cargs
    unfold aExt at h3
    split at h3
    · cases h3
      obtain ⟨c, hc, hv⟩ := VRs.one ha
      simp only at hc
      subst hc
      have : (callFunc f #[c]).run P w = .ok (.value c) w := hm c w
      rw [this]
      exact .val (Ext.refl C.hr) hv
    · rename_i s c
      split at h3
      · rename_i hc
        cases h3
        have hc' : c < 256 := by simpa [Nat.blt_eq] using hc
        obtain ⟨c1, c2, hcl, hv1, hv2⟩ := VRs.two ha
        simp only at hcl
        subst hcl
        cases hv1 with | str hs =>
        rename_i b
        subst hs
        cases hv2
        obtain ⟨w', r1, r2, ro⟩ := hm b (Int.ofNat c) w (Int.natCast_nonneg c) (by simp only [Int.ofNat_eq_natCast]; omega)
        have : (callFunc f #[.string b, .int .u8 (Int.ofNat c)]).run P w = _ := r1
        rw [this]
        refine .val (ρ' := ρ) ?_ ?_ ro
        · rw [r2]; exact Ext.refl C.hr
        · rw [idxA_range c b hc']
          exact .int
      · cases h3
    · cases h3
  · rename_i he
    rw [he] at hm
    cases h2
    obtain ⟨hb, hn⟩ := hm
    have : (callFunc f cargs).run P w = .ok (.enter f cargs) w := by
      unfold callFunc
      have hbn : fn.fn.body.isNone = false := by
        cases hq : fn.fn.body with
        | none => rw [hq] at hb; cases hb
        | some _ => rfl
      simp only [Sem.run_bind, run_program, Result.andThen_ok, hp, hn, hbn, Bool.false_eq_true, if_false, Sem.run_pure]
    rw [this]
    exact .enter ha

theorem aInvoke_ok {fn fn' : Fn} {captured args : List AV} {ccap cargs : Array Value} {nx : ANext} (h : aInvoke E S fn captured args = .ok nx) (hf : FnR ρ fn fn') (hc : VRs ρ captured ccap.toList) (ha : VRs ρ args cargs.toList) :
    NextOK P ρ S w nx ((invoke (.fn fn' ccap) cargs).run P w) := by
  unfold aInvoke at h
  split at h
  · cases hf with | same _ =>
    have : VRs ρ (args ++ captured) (cargs ++ ccap).toList := by rw [Array.toList_append]; exact ha.append hc
    exact aCallFunc_ok C h this
  · rename_i tt path f ptr
    cases hf with | same _ =>
    obtain ⟨i, h1, h2⟩ := R.bind_ok h
    have hu := (tiOf_ok C.env h1).run_und w
    split at h2
    · rename_i hd hp _
      obtain ⟨cl⟩ := cargs
      obtain ⟨c, cr, hcl, hv, hr⟩ := VRs.head ha
      simp only at hcl
      subst hcl
      obtain ⟨pl⟩ := path
      simp only at hp
      subst hp
      rw [hd] at hu
      have hrecv : (receiverVia tt c (#[] : Array FieldStep) true).run P w = .ok c w := by
        unfold receiverVia
        simp only [follow, Sem.run_bind, Sem.run_pure, Result.andThen_ok, receiverAt, hu]
        rfl
      have hget : ((c :: cr).toArray : Array Value)[0]? = some c := rfl
      have hrun : (invoke (.fn (.via tt #[] f true) ccap) (c :: cr).toArray).run P w = (callFunc f (c :: cr).toArray).run P w := by
        have hcat : #[c] ++ (c :: cr).toArray.extract 1 (c :: cr).toArray.size = (c :: cr).toArray := by
          apply Array.toList_inj.1; simp
        simp only [invoke, hget, Sem.run_bind, hrecv, Result.andThen_ok, hcat]
      rw [hrun]
      exact aCallFunc_ok C h2 ha
    · cases h2
  · cases h

theorem evCall_ok {c : Call} {nx : ANext} (h : evCall E t S c = .ok nx) (type : TypeId) :
    NextOK P ρ S w nx ((do let d ← resolve a.eval c type; invoke d.target d.args : Sem Next).run P w) := by
  unfold evCall at h
  obtain ⟨args, h1, h2⟩ := R.bind_ok h
  have ha := C.os h1
  rw [← Array.toList_map] at ha
  cases hc : c.callee with
  | builtin b =>
    rw [hc] at h2
    have hrun : (do let d ← resolve a.eval c type; invoke d.target d.args : Sem Next).run P w =
        (builtin b c.argTypes type (c.args.map fun | .const _ => true | _ => false) (c.args.map a.eval)).run P w := by
      simp only [resolve, hc, Sem.run_bind, Sem.run_pure, Result.andThen_ok, invoke]
      rfl
    rw [hrun]
    exact aBuiltin_ok C h2 ha type _
  | value f =>
    rw [hc] at h2
    obtain ⟨v, h3, h4⟩ := R.bind_ok h2
    have hv := C.o h3
    split at h4
    · rename_i fn first captured
      generalize hq : a.eval f = cf at hv
      cases hv with | func hf h5 h6 =>
      rename_i fn' a' c'
      have hrun : (do let d ← resolve a.eval c type; invoke d.target d.args : Sem Next).run P w = (invoke (.fn fn' c') (a' ++ c.args.map a.eval)).run P w := by
        simp only [resolve, hc, hq, Deferred.ofValue, Sem.run_bind, Sem.run_pure, Result.andThen_ok]
      rw [hrun]
      exact aInvoke_ok C h4 hf h6 (by rw [Array.toList_append]; exact h5.append ha)
    · cases h4
  | invoke r m => rw [hc] at h2; cases h2

theorem evDefer_ok {c : Call} {nx : ANext} (h : evDefer E t c = .ok nx) (type : TypeId) :
    NextOK P ρ S w nx ((do pure (Next.defer (← resolve a.eval c type)) : Sem Next).run P w) := by
  unfold evDefer at h
  obtain ⟨args, h1, h2⟩ := R.bind_ok h
  have ha := C.os h1
  rw [← Array.toList_map] at ha
  cases hc : c.callee with
  | builtin b => rw [hc] at h2; cases h2
  | value f =>
    rw [hc] at h2
    obtain ⟨v, h3, h4⟩ := R.bind_ok h2
    have hv := C.o h3
    split at h4
    · rename_i fn first captured
      cases h4
      generalize hq : a.eval f = cf at hv
      cases hv with | func hf h5 h6 =>
      rename_i fn' a' c'
      have hrun : (do pure (Next.defer (← resolve a.eval c type)) : Sem Next).run P w = .ok (.defer { target := .fn fn' c', args := a' ++ c.args.map a.eval }) w := by
        simp only [resolve, hc, hq, Deferred.ofValue, Sem.run_bind, Sem.run_pure, Result.andThen_ok]
      rw [hrun]
      exact .defer (.call hf h6 (by rw [Array.toList_append]; exact h5.append ha))
    · cases h4
  | invoke r m => rw [hc] at h2; cases h2

theorem opPanic_ok {x : Operand} {nx : ANext} (h : opPanic E t S x = .ok nx) : NextOK P ρ S w nx ((do pure (Next.value (← Instr.panic (a.eval x))) : Sem Next).run P w) := by
  unfold opPanic at h
  obtain ⟨v, h1, h2⟩ := R.bind_ok h
  have hx := C.o h1
  generalize a.eval x = cx at hx
  split at h2
  · cases h2
    have hx' := hx
    cases hx with | iface q =>
    exact .pan (ρ' := ρ) (Ext.refl C.hr) hx'
  · cases h2

/- ONE OPERATION. -/
theorem evOp_ok {o : Oper} {nx : ANext} (h : evOp E t S o.op = .ok nx) : NextOK P ρ S w nx ((execOp a.eval o).run P w) := by
  cases ho : o.op <;> rw [ho] at h <;> first | (cases h; done) | skip
  case nilCheck x => exact opNilCheck_ok C h ho
  all_goals unfold execOp; rw [ho]
  case move x => exact opMove_ok C h
  case assign x => exact opMove_ok C h
  case pick c x y => exact opPick_ok C h
  case alloc => exact opAlloc_ok C h
  case box => exact opBox_ok C h
  case build => exact opBuild_ok C h
  case buildSlice => exact opBuildSlice_ok C h
  case insert => exact opMapSet_ok C h
  case load => exact opLoad_ok C h
  case store => exact opStore_ok C h
  case binOp op tt x y yt =>
    have h' : opBin E t S op tt x y = .ok nx := h
    unfold opBin at h'
    obtain ⟨va, h1, h2⟩ := R.bind_ok h'
    obtain ⟨vb, h3, h4⟩ := R.bind_ok h2
    exact aBin_ok C h4 (C.o h1) (C.o h3)
  case unOp => exact opUn_ok C h
  case convert => exact opConvert_ok C h
  case makeInterface => exact opMakeInterface_ok C h
  case makeFunc => exact opMakeFunc_ok C h
  case makeMap => exact opMakeMap_ok C h
  case makeSlice => exact opMakeSlice_ok C h
  case slice => exact opSlice_ok C h
  case fieldAddr => exact opFieldAddr_ok C h
  case field => exact opField_ok C h
  case indexAddr => exact opIndexAddr_ok C h
  case index => exact opIndex_ok C h
  case lookup => exact opLookup_ok C h
  case mapUpdate => exact opMapSet_ok C h
  case mapEntry => exact opMapEntry_ok C h
  case entryStore tt m s x => exact opEntryStore_ok C h tt
  case range => exact opRange_ok C h
  case next => exact opNext_ok C h o.type
  case entry => exact opEntry_ok C h
  case typeAssert x xT tt ok => exact opTypeAssert_ok C h
  case extract => exact opExtract_ok C h
  case call c => exact evCall_ok C h o.type
  case defer c => exact evDefer_ok C h o.type
  case panic x => exact opPanic_ok C h

end
end Go.Ev

/- A verified evaluator. Part S31: frames, modes, callers, endings; the machine's steps. -/
namespace Go.Ev

inductive PansR (ρ : Rho) : List APan → List PanicEntry → Prop
  | nil : PansR ρ [] []
  | cons {p : APan} {e : PanicEntry} {ps : List APan} {es : List PanicEntry} (hv : VR ρ p.v e.v) (hr : p.recovered = e.recovered) (hg : e.goexit = false) (hs : PansR ρ ps es) : PansR ρ (p :: ps) (e :: es)

theorem PansR.mono {ρ ρ' : Rho} (h : ρ.le ρ') : ∀ {l : List APan} {c : List PanicEntry}, PansR ρ l c → PansR ρ' l c
  | _, _, .nil => .nil
  | _, _, .cons hv hr hg hs => .cons (hv.mono h) hr hg (hs.mono h)

theorem PansR.append {ρ : Rho} : ∀ {l : List APan} {c : List PanicEntry} {l' : List APan} {c' : List PanicEntry}, PansR ρ l c → PansR ρ l' c' → PansR ρ (l ++ l') (c ++ c')
  | _, _, _, _, .nil, h => h
  | _, _, _, _, .cons hv hr hg hs, h => .cons hv hr hg (hs.append h)

theorem PansR.noexit {ρ : Rho} : ∀ {l : List APan} {c : List PanicEntry}, PansR ρ l c → c.dropWhile (!·.goexit) = []
  | _, _, .nil => rfl
  | _, _, .cons hv hr hg hs => by rw [List.dropWhile_cons]; simp [hg, hs.noexit]

inductive ModeR (ρ : Rho) : AMode → FrameMode → Prop
  | run : ModeR ρ .run .run
  | returning : ModeR ρ .returning .returning
  | panicking {l : List APan} {c : List PanicEntry} (h : PansR ρ l c) : ModeR ρ (.panicking l) (.panicking c)

theorem ModeR.mono {ρ ρ' : Rho} (h : ρ.le ρ') {a : AMode} {b : FrameMode} (x : ModeR ρ a b) : ModeR ρ' a b := by
  cases x with
  | run => exact .run
  | returning => exact .returning
  | panicking e => exact .panicking (e.mono h)

theorem DefR.mono {ρ ρ' : Rho} (h : ρ.le ρ') {a : ADI} {b : Deferred} (x : DefR ρ a b) : DefR ρ' a b := by
  cases x with
  | call hf hc ha => exact .call (hf.mono h) (hc.mono h) (ha.mono h)
  | collected e => exact .collected (h.1 _ _ e)

inductive DefsR (ρ : Rho) : List ADI → List Deferred → Prop
  | nil : DefsR ρ [] []
  | cons {d : ADI} {c : Deferred} {ds : List ADI} {cs : List Deferred} (h : DefR ρ d c) (hs : DefsR ρ ds cs) : DefsR ρ (d :: ds) (c :: cs)

theorem DefsR.mono {ρ ρ' : Rho} (h : ρ.le ρ') : ∀ {l : List ADI} {c : List Deferred}, DefsR ρ l c → DefsR ρ' l c
  | _, _, .nil => .nil
  | _, _, .cons x xs => .cons (x.mono h) (xs.mono h)

/- The callers of a frame, so far as it can turn them. -/
inductive CsR (ρ : Rho) : CallKind → AMode → List Frame → Prop
  | normal {u : AMode} {cs : List Frame} : CsR ρ .normal u cs
  | deferred {u : AMode} {c : Frame} {cs : List Frame} (h : ModeR ρ u c.mode) : CsR ρ .deferred u (c :: cs)

theorem CsR.mono {ρ ρ' : Rho} (h : ρ.le ρ') {k : CallKind} {u : AMode} {cs : List Frame} (x : CsR ρ k u cs) : CsR ρ' k u cs := by
  cases x with
  | normal => exact .normal
  | deferred e => exact .deferred (e.mono h)

inductive CsTo : CallKind → List Frame → List Frame → Prop
  | normal {cs : List Frame} : CsTo .normal cs cs
  | deferred {c : Frame} {cs : List Frame} {m : FrameMode} : CsTo .deferred (c :: cs) ({ c with mode := m } :: cs)

theorem CsR.refl {ρ : Rho} {k : CallKind} {u : AMode} {cs : List Frame} (x : CsR ρ k u cs) : CsTo k cs cs := by
  cases x with
  | normal => exact .normal
  | deferred e => rename_i c _; exact CsTo.deferred (c := c) (m := c.mode)

theorem CsTo.trans {k : CallKind} {a b c : List Frame} (h : CsTo k a b) (h' : CsTo k b c) : CsTo k a c := by
  cases h with
  | normal => exact h'
  | deferred => cases h' with | deferred => exact CsTo.deferred

/- A frame that leaves. -/
def Frame.un (b : Frame) (tmps : Array Value) (ds : List Deferred) (m : FrameMode) (todo : List Item) : Frame := { fn := b.fn, tmps, todo, defers := ds, mode := m, kind := b.kind }

def EndOK (P : Program) (ρ : Rho) (b : Frame) (fn : Func) (e : AEnd) (fr : Frame) (w : World) : Prop :=
  fr.fn = b.fn ∧ fr.kind = b.kind ∧ fr.defers = [] ∧
  match e with
  | .ret v => fr.mode = .returning ∧ ∃ c, (results fn fr.tmps).run P w = .ok c w ∧ VR ρ v c
  | .pan ch => ∃ c, fr.mode = .panicking c ∧ PansR ρ ch c

/- A way of a frame to its end. -/
def Ends (P : Program) (b : Frame) (fn : Func) (ρ : Rho) (S : St) (w : World) (cs : List Frame) (o : Out) (m : Machine) : Prop :=
  ∃ ρ' w' fr' cs', Steps P m (lone fr' cs' w') ∧ Ext ρ S w.heap ρ' o.S w'.heap ∧ EndOK P ρ' b fn o.e fr' w' ∧ CsTo b.kind cs cs' ∧ CsR ρ' b.kind o.u cs' ∧ SameOs w w'

theorem Ends.of_steps {P : Program} {b : Frame} {fn : Func} {ρ : Rho} {S : St} {w : World} {cs : List Frame} {o : Out} {m m1 : Machine} (h : Steps P m m1) (h' : Ends P b fn ρ S w cs o m1) : Ends P b fn ρ S w cs o m := by
  obtain ⟨ρ', w', fr', cs', a, r⟩ := h'
  exact ⟨ρ', w', fr', cs', h.trans a, r⟩

theorem Ends.of_ext {P : Program} {b : Frame} {fn : Func} {ρ ρ1 : Rho} {S S1 : St} {w w1 : World} {cs cs1 : List Frame} {o : Out} {m : Machine} (h : Ext ρ S w.heap ρ1 S1 w1.heap) (ho : SameOs w w1) (hc : CsTo b.kind cs cs1)
    (h' : Ends P b fn ρ1 S1 w1 cs1 o m) : Ends P b fn ρ S w cs o m := by
  obtain ⟨ρ', w', fr', cs', a, e, r, c, q⟩ := h'
  exact ⟨ρ', w', fr', cs', a, h.trans e, r, hc.trans c, q.1, ho.trans q.2⟩

section
variable {P : Program} {E : Env}

theorem Ctx.step {ρ ρ' : Rho} {S S' : St} {w w' : World} {t t' : T AV} {nt : Nat} {a a' : Act} (C : Ctx P E ρ S w t nt a) (e : Ext ρ S w.heap ρ' S' w'.heap) (ht : TmR ρ' nt t' a'.tmps) : Ctx P E ρ' S' w' t' nt a' :=
  ⟨C.env, C.glob.mono e.le, ht, e.hr, by rw [e.le.2]; exact C.facts⟩

theorem TmR.put {ρ : Rho} {nt : Nat} {t : T AV} {a : Array Value} (h : TmR ρ nt t a) {d : Nat} {v : AV} {c : Value} (hv : VR ρ v c) (hd : d < nt) : TmR ρ nt (t.set d v) (a.setIfInBounds d c) := by
  refine ⟨by simp [h.size], fun i => ?_⟩
  by_cases e : i = d
  · subst e
    rw [T.get_set]
    have hs := h.size
    have : (a.setIfInBounds i c).getD i undef = c := by
      rw [Array.getD_eq_getD_getElem?, Array.getElem?_setIfInBounds, if_pos rfl, if_pos (by omega)]; rfl
    rw [this]; exact hv
  · rw [T.get_set_ne _ _ _ _ e]
    have : (a.setIfInBounds d c).getD i undef = a.getD i undef := by
      rw [Array.getD_eq_getD_getElem?, Array.getElem?_setIfInBounds, if_neg (fun x => e x.symm), ← Array.getD_eq_getD_getElem?]
    rw [this]; exact h.vals i

theorem wr_eq (dst : Dst) (t : T AV) (v : AV) (k : T AV → Res) : wr dst t v k = k (match dst with | .none => t | .at p => setL p (some v) t (fun t => t)) := by
  cases dst with
  | none => rfl
  | «at» p => exact setL_k p _ _ _

/- Where a value goes. -/
theorem wr_ok {ρ : Rho} {nt : Nat} {t : T AV} {a : Act} (h : TmR ρ nt t a.tmps) {dst : Option Tmp} {v : AV} {c : Value} (hv : VR ρ v c) :
    ∃ t', (∀ k, wr (dstOf nt dst) t v k = k t') ∧ TmR ρ nt t' (a.put dst c).tmps := by
  cases dst with
  | none => exact ⟨t, fun k => rfl, h⟩
  | some d =>
    cases hb : Nat.blt d nt with
    | false =>
      have hdst : dstOf nt (some d) = .none := by
        show (match Nat.blt d nt with | true => Dst.at (path d) | false => .none) = .none
        rw [hb]
      refine ⟨t, fun k => by rw [hdst]; rfl, ?_⟩
      have hge : nt ≤ d := by
        rcases Nat.lt_or_ge d nt with q | q
        · have : Nat.blt d nt = true := by rw [Nat.blt_eq]; exact q
          rw [this] at hb; cases hb
        · exact q
      have : (a.put (some d) c).tmps = a.tmps := by
        show a.tmps.setIfInBounds d c = a.tmps
        have := h.size
        exact Array.setIfInBounds_eq_of_size_le (by omega)
      rw [this]; exact h
    | true =>
      have hd : d < nt := by rw [Nat.blt_eq] at hb; exact hb
      have hdst : dstOf nt (some d) = .at (path d) := by
        show (match Nat.blt d nt with | true => Dst.at (path d) | false => .none) = .at (path d)
        rw [hb]
      exact ⟨t.set d v, fun k => by rw [hdst]; exact wr_eq _ _ _ _, h.put hv hd⟩

theorem put_defers {a : Act} {dst : Option Tmp} {c : Value} : (a.put dst c).defers = a.defers := by cases dst <;> rfl

theorem rd_ok {ρ : Rho} {nt : Nat} {t : T AV} {a : Act} {x : Operand} {k : AV → Res} {outs : List Out} (hg : GlobalsAt ρ E.nglob) (ht : TmR ρ nt t a.tmps) (h : rd (srcOf E x) t k = .ok outs) :
    ∃ v, VR ρ v (a.eval x) ∧ evO E t x = .ok v ∧ k v = .ok outs := by
  have key : ∀ v, evO E t x = .ok v → k v = .ok outs → ∃ v, VR ρ v (a.eval x) ∧ evO E t x = .ok v ∧ k v = .ok outs := fun v h1 h2 => ⟨v, evO_ok hg ht h1, h1, h2⟩
  cases x with
  | tmp i =>
    have h' : (Option.rec (motive := fun _ => Res) (k undefA) (fun v => k v) (t.get i) : Res) = .ok outs := h
    cases hq : t.get i with
    | none => rw [hq] at h'; exact key _ (by simp [evO, hq]) h'
    | some v => rw [hq] at h'; exact key _ (by simp [evO, hq]) h'
  | const v =>
    unfold srcOf at h
    simp only at h
    cases hq : toA v with
    | ok a' => rw [hq] at h; exact key a' hq h
    | bad q => rw [hq] at h; cases h
  | global g =>
    unfold srcOf at h
    simp only at h
    cases hq : globA E g with
    | ok a' => rw [hq] at h; exact key a' hq h
    | bad q => rw [hq] at h; cases h
  | func f => exact key _ rfl h

/- Guards. -/
theorem yielded_ok {ρ : Rho} {nt : Nat} {t : T AV} {a : Array Value} (h : TmR ρ nt t a) (ops : Array Oper) (j : Nat) : yieldedA ops.toList t j = yielded ops a j := by
  unfold yieldedA yielded
  rw [Array.getElem?_toList]
  cases ops[j]? with
  | none => rfl
  | some o =>
    simp only [Option.bind_some]
    cases hd : o.dst with
    | none => rfl
    | some d =>
      simp only [Option.bind_some]
      have hv := h.vals d
      rw [Array.getD_eq_getD_getElem?] at hv
      cases ha : a[d]? with
      | none =>
        rw [ha] at hv
        cases ht : t.get d with
        | none => rfl
        | some v => rw [ht] at hv; cases v <;> first | rfl | cases hv
      | some c =>
        rw [ha] at hv
        cases ht : t.get d with
        | none => rw [ht] at hv; cases c <;> first | rfl | cases hv
        | some v =>
          rw [ht] at hv
          simp only [Option.getD_some] at hv
          cases hv <;> rfl

theorem wanted_ok {ρ : Rho} {nt : Nat} {t : T AV} {a : Array Value} (h : TmR ρ nt t a) (ops : Array Oper) (o : Oper) : wantedA ops.toList t o.guard = Region.wanted o (yielded ops a) := by
  unfold wantedA Region.wanted
  cases o.guard with
  | none => rfl
  | some g =>
    obtain ⟨j, want⟩ := g
    show guardA ops.toList t (j, want) = _
    unfold guardA
    simp only [yielded_ok h]
    cases yielded ops a j with
    | none => rfl
    | some b => cases b <;> cases want <;> rfl

/- The machine's steps at an operation. -/
variable {b : Frame} {a : Act} {k : List Item} {cs : List Frame} {w w' : World} {ops : Array Oper} {i : Nat} {rest : List Nat} {o : Oper}

theorem step_value (ho : ops[i]? = some o) (hw : Region.wanted o (yielded ops a.tmps) = true) {v : Value} (hr : (execOp a.eval o).run P w = .ok (.value v) w') :
    step P (lone (b.at a (.inRegion ops (i :: rest) :: k)) cs w) = .next (lone (b.at (a.put o.dst v) (.inRegion ops rest :: k)) cs w') := by
  have hg := stepG_op (P := P) (b := b) (k := k) (cs := cs) (w := w) (rest := rest) ho hw
  have hfin : (b.at a (.inRegion ops (i :: rest) :: k)).finish v = b.at (a.put o.dst v) (.inRegion ops rest :: k) := by rw [Frame.finish_at, ho]; rfl
  exact step_lone_go (by rw [hg, ← hfin]; simp [stepG.apply, hr])

theorem step_skipped (ho : ops[i]? = some o) (hw : Region.wanted o (yielded ops a.tmps) = true) (hr : (execOp a.eval o).run P w = .ok .skip w') :
    step P (lone (b.at a (.inRegion ops (i :: rest) :: k)) cs w) = .next (lone (b.at (a.put o.dst undef) (.inRegion ops rest :: k)) cs w') := by
  have hg := stepG_op (P := P) (b := b) (k := k) (cs := cs) (w := w) (rest := rest) ho hw
  have hfin : (b.at a (.inRegion ops (i :: rest) :: k)).finish undef = b.at (a.put o.dst undef) (.inRegion ops rest :: k) := by rw [Frame.finish_at, ho]; rfl
  exact step_lone_go (by rw [hg, ← hfin]; simp [stepG.apply, hr])

theorem step_deferred (ho : ops[i]? = some o) (hw : Region.wanted o (yielded ops a.tmps) = true) {d : Deferred} (hr : (execOp a.eval o).run P w = .ok (.defer d) w') :
    step P (lone (b.at a (.inRegion ops (i :: rest) :: k)) cs w) = .next (lone (b.at ({ a with defers := d :: a.defers }.put o.dst undef) (.inRegion ops rest :: k)) cs w') := by
  have hg := stepG_op (P := P) (b := b) (k := k) (cs := cs) (w := w) (rest := rest) ho hw
  have : ({ b.at a (.inRegion ops (i :: rest) :: k) with defers := d :: a.defers } : Frame).finish undef =
      b.at ({ a with defers := d :: a.defers }.put o.dst undef) (.inRegion ops rest :: k) := by
    have := Frame.finish_at b { a with defers := d :: a.defers } ops i rest k undef
    rw [ho] at this; exact this
  refine step_lone_go ?_
  rw [hg]; simp only [stepG.apply, Sem.runT_eq, hr, GStep.bare_after]
  exact congrArg (fun fr => GStep.go { frame := fr, callers := cs, status := .running, dying := none } w') this

theorem step_enter (ho : ops[i]? = some o) (hw : Region.wanted o (yielded ops a.tmps) = true) {f : FuncId} {args : Array Value} (hr : (execOp a.eval o).run P w = .ok (.enter f args) w') :
    step P (lone (b.at a (.inRegion ops (i :: rest) :: k)) cs w) = .next (lone (Frame.enter P f args .normal) (b.at a (.inRegion ops (i :: rest) :: k) :: cs) w') := by
  have hg := stepG_op (P := P) (b := b) (k := k) (cs := cs) (w := w) (rest := rest) ho hw
  exact step_lone_go (by rw [hg]; simp [stepG.apply, hr, Frame.at])

theorem step_panics (ho : ops[i]? = some o) (hw : Region.wanted o (yielded ops a.tmps) = true) {v : Value} (hr : (execOp a.eval o).run P w = .halt (.panic v) w') :
    step P (lone (b.at a (.inRegion ops (i :: rest) :: k)) cs w) = .next (lone { b.at a (.inRegion ops (i :: rest) :: k) with mode := .panicking [{ v, recovered := false }] } cs w') := by
  have hg := stepG_op (P := P) (b := b) (k := k) (cs := cs) (w := w) (rest := rest) ho hw
  exact step_lone_go (by rw [hg, ← Frame.raise_at]; simp [stepG.apply, hr])

theorem step_recover (ho : ops[i]? = some o) (hw : Region.wanted o (yielded ops a.tmps) = true) (hr : (execOp a.eval o).run P w = .ok .recover w') :
    step P (lone (b.at a (.inRegion ops (i :: rest) :: k)) cs w) =
      .next (match tryRecover (b.at a (.inRegion ops (i :: rest) :: k)) cs with
        | some (v, cs') => lone (b.at (a.put o.dst v) (.inRegion ops rest :: k)) cs' w'
        | none => lone (b.at (a.put o.dst .nilIface) (.inRegion ops rest :: k)) cs w') := by
  have hg := stepG_op (P := P) (b := b) (k := k) (cs := cs) (w := w) (rest := rest) ho hw
  have hfin : ∀ v, (b.at a (.inRegion ops (i :: rest) :: k)).finish v = b.at (a.put o.dst v) (.inRegion ops rest :: k) := by intro v; rw [Frame.finish_at, ho]; rfl
  have hro : (b.at a (.inRegion ops (i :: rest) :: k)).roundOf = none := rfl
  cases ht : tryRecover (b.at a (.inRegion ops (i :: rest) :: k)) cs with
  | none => exact step_lone_go (by rw [hg, ← hfin]; simp [stepG.apply, hr, hro, ht])
  | some p => obtain ⟨v, cs'⟩ := p; exact step_lone_go (by rw [hg, ← hfin]; simp [stepG.apply, hr, hro, ht])

end
end Go.Ev

/- A verified evaluator. Part S32: what it means that a continuation is sound; operations as boxes. -/
namespace Go.Ev

def NestOK (P : Program) (E : Env) (N : Nest) : Prop :=
  ∀ (f : FuncId) (args : List AV) (kind : CallKind) (u : AMode) (S : St) (o : Out) (ρ : Rho) (w : World) (cargs : Array Value) (cs : List Frame), N.call f args kind u S = .ok o → EnvOK P E → GlobalsAt ρ E.nglob → HR ρ S w.heap → FactsOK E ρ.sig →
    VRs ρ args cargs.toList → CsR ρ kind u cs → ∃ fn, P.funcs[f]? = some fn ∧ Ends P { (default : Frame) with fn := f, kind := kind } fn ρ S w cs o (lone (Frame.enter P f cargs kind) cs w)

section
variable (P : Program) (E : Env) (b : Frame) (fn : Func) (nt : Nat)

def KOK (k : K) (todo : List Item) : Prop :=
  ∀ (ρ : Rho) (S : St) (w : World) (t : T AV) (a : Act) (ds : List ADI) (u : AMode) (cs : List Frame) (outs : List Out), Ctx P E ρ S w t nt a → DefsR ρ ds a.defers → CsR ρ b.kind u cs → k t ds u S = .ok outs →
    ∃ o ∈ outs, Ends P b fn ρ S w cs o (lone (b.at a todo) cs w)

def RetOK (k : K) : Prop :=
  ∀ (ρ : Rho) (S : St) (w : World) (t : T AV) (a : Act) (ds : List ADI) (u : AMode) (cs : List Frame) (outs : List Out) (todo : List Item), Ctx P E ρ S w t nt a → DefsR ρ ds a.defers → CsR ρ b.kind u cs → k t ds u S = .ok outs →
    ∃ o ∈ outs, Ends P b fn ρ S w cs o (lone { b.at a todo with mode := .returning } cs w)

def PanOK (pk : List APan → K) : Prop :=
  ∀ (ch : List APan) (c : List PanicEntry) (ρ : Rho) (S : St) (w : World) (t : T AV) (a : Act) (ds : List ADI) (u : AMode) (cs : List Frame) (outs : List Out) (todo : List Item), PansR ρ ch c → Ctx P E ρ S w t nt a → DefsR ρ ds a.defers → CsR ρ b.kind u cs →
    pk ch t ds u S = .ok outs → ∃ o ∈ outs, Ends P b fn ρ S w cs o (lone { b.at a todo with mode := .panicking c } cs w)

/- A box that stands for the operation number i of a region. -/
def ODOK (d : OD) (ops : Array Oper) (i : Nat) (o : Oper) : Prop :=
  ∀ (N : Nest) (pk : List APan → K) (k : K) (rest : List Nat) (items : List Item), NestOK P E N → PanOK P E b fn nt pk → KOK P E b fn nt k (.inRegion ops rest :: items) →
    ∀ (ρ : Rho) (S : St) (w : World) (t : T AV) (a : Act) (ds : List ADI) (u : AMode) (cs : List Frame) (outs : List Out), Ctx P E ρ S w t nt a → DefsR ρ ds a.defers → CsR ρ b.kind u cs →
      ops[i]? = some o → Region.wanted o (yielded ops a.tmps) = true → runOD d N pk k t ds u S = .ok outs → ∃ o ∈ outs, Ends P b fn ρ S w cs o (lone (b.at a (.inRegion ops (i :: rest) :: items)) cs w)
end

theorem flatR_mem {α β : Type} {f : α → R (List β)} : ∀ {l : List α} {r : List β} {x : α}, flatR f l = .ok r → x ∈ l → ∃ s, f x = .ok s ∧ ∀ y ∈ s, y ∈ r := by
  intro l
  induction l with
  | nil => intro r x _ h; cases h
  | cons a l ih =>
    intro r x h hx
    obtain ⟨s, h1, h2⟩ := R.bind_ok h
    obtain ⟨r', h3, h4⟩ := R.bind_ok h2
    cases h4
    rcases List.mem_cons.1 hx with e | e
    · subst e; exact ⟨s, h1, fun y hy => List.mem_append_left _ hy⟩
    · obtain ⟨s', q1, q2⟩ := ih h3 e
      exact ⟨s', q1, fun y hy => List.mem_append_right _ (q2 y hy)⟩

section
variable {P : Program} {E : Env} {b : Frame} {fn : Func} {nt : Nat}

/- Going on behind a value. -/
theorem KOK.goOn {k : K} {todo : List Item} (hk : KOK P E b fn nt k todo) {ρ ρ1 : Rho} {S S1 : St} {w w1 : World} {t : T AV} {a : Act} {ds : List ADI} {u : AMode} {cs cs1 : List Frame} {outs : List Out}
    (C : Ctx P E ρ S w t nt a) (hd : DefsR ρ1 ds a.defers) (he : Ext ρ S w.heap ρ1 S1 w1.heap) (hso : SameOs w w1) (hto : CsTo b.kind cs cs1) (hcs : CsR ρ1 b.kind u cs1) {dst : Option Tmp} {v : AV} {c : Value} (hv : VR ρ1 v c)
    (h : wr (dstOf nt dst) t v (fun t => k t ds u S1) = .ok outs) {m : Machine} (hm : Steps P m (lone (b.at (a.put dst c) todo) cs1 w1)) : ∃ o ∈ outs, Ends P b fn ρ S w cs o m := by
  obtain ⟨t', h1, h2⟩ := wr_ok (C.tm.mono he.le) (dst := dst) hv
  rw [h1] at h
  obtain ⟨o, ho, e⟩ := hk ρ1 S1 w1 t' (a.put dst c) ds u cs1 outs (C.step he h2) (by rw [put_defers]; exact hd) hcs h
  exact ⟨o, ho, (e.of_steps hm).of_ext he hso hto⟩

theorem tryRecover_ok {ρ : Rho} {u : AMode} {cs : List Frame} {a : Act} {todo : List Item} (h : CsR ρ .deferred u cs) (hb : b.kind = .deferred) :
    match tryRecover (b.at a todo) cs with
    | some (v, cs') => CsTo .deferred cs cs' ∧ VR ρ (recoverA u).1 v ∧ CsR ρ .deferred (recoverA u).2 cs'
    | none => recoverA u = (.nilIface, u) := by
  cases h with
  | deferred hm =>
    rename_i c cs
    have hk : (b.at a todo).kind = .deferred := hb
    unfold tryRecover
    rw [hk]
    simp only
    generalize hcm : c.mode = m at hm
    cases hm with
    | run => rfl
    | returning => rfl
    | panicking hp =>
      cases hp with
      | nil => rfl
      | cons hv hr hg hs =>
        rename_i p e ps es
        obtain ⟨pv, pr⟩ := p
        obtain ⟨ev, er, eg⟩ := e
        simp only at hv hr hg
        subst hr; subst hg
        cases pr with
        | true => rfl
        | false => exact ⟨CsTo.deferred, hv, .deferred (.panicking (.cons hv rfl rfl hs))⟩

variable {N : Nest} {pk : List APan → K} {k : K} {ops : Array Oper} {i : Nat} {rest : List Nat} {items : List Item} {o : Oper}
  {ρ : Rho} {S : St} {w : World} {t : T AV} {a : Act} {ds : List ADI} {u : AMode} {cs : List Frame} {outs : List Out}
  (hN : NestOK P E N) (hp : PanOK P E b fn nt pk) (hk : KOK P E b fn nt k (.inRegion ops rest :: items)) (C : Ctx P E ρ S w t nt a) (hd : DefsR ρ ds a.defers) (hcs : CsR ρ b.kind u cs)
  (ho : ops[i]? = some o) (hw : Region.wanted o (yielded ops a.tmps) = true)
include hN hp hk C hd hcs ho hw

theorem afterCall_ok {f : FuncId} {args : List AV} {cargs : Array Value} (hargs : VRs ρ args cargs.toList) (hr : (execOp a.eval o).run P w = .ok (.enter f cargs) w)
    (h : afterCall pk k (dstOf nt o.dst) t ds u (N.call f args .normal .run S) = .ok outs) : ∃ x ∈ outs, Ends P b fn ρ S w cs x (lone (b.at a (.inRegion ops (i :: rest) :: items)) cs w) := by
  cases hc : N.call f args .normal .run S with
  | bad q => rw [hc] at h; cases h
  | ok out =>
    rw [hc] at h
    obtain ⟨e, u', S1⟩ := out
    obtain ⟨fn2, hf2, ρ1, w1, fr, cs1, hs, he, hend, hto, _, hso⟩ := hN f args .normal .run S _ ρ w cargs (b.at a (.inRegion ops (i :: rest) :: items) :: cs) hc C.env C.glob C.hr C.facts hargs .normal
    cases hto
    have s1 := Steps.head (step_enter (k := items) (cs := cs) (rest := rest) ho hw hr) hs
    obtain ⟨e1, e2, e3, e4⟩ := hend
    have h' : afterEnd pk k (dstOf nt o.dst) t ds u e S1 = .ok outs := h
    cases e with
    | ret v =>
      obtain ⟨m1, c, m2, m3⟩ := e4
      have hleave : fr.leaving P w1 (.returned c) := ⟨m1, e3, e2, fn2, by rw [e1]; exact hf2, m2⟩
      have s2 := s1.trans (.one (step_leave_returned hleave))
      have hfin : (b.at a (.inRegion ops (i :: rest) :: items)).finish c = b.at (a.put o.dst c) (.inRegion ops rest :: items) := by rw [Frame.finish_at, ho]; rfl
      rw [hfin] at s2
      exact hk.goOn C (hd.mono he.le) he hso hcs.refl (hcs.mono he.le) m3 h' s2
    | pan ch =>
      obtain ⟨c, m1, m2⟩ := e4
      have hleave : fr.leaving P w1 (.panicked c) := ⟨m1, e3, fn2, by rw [e1]; exact hf2⟩
      have s2 := s1.trans (.one (step_leave_panicked hleave))
      rw [Frame.raise_at] at s2
      obtain ⟨x, hx, hE⟩ := hp ch c ρ1 S1 w1 t a ds u cs outs _ m2 (C.step he (C.tm.mono he.le)) (hd.mono he.le) (hcs.mono he.le) h'
      exact ⟨x, hx, (hE.of_steps s2).of_ext he hso hcs.refl⟩

theorem afterNext_ok {nx : ANext} (hnx : NextOK P ρ S w nx ((execOp a.eval o).run P w)) (h : afterNext N b.kind pk k (dstOf nt o.dst) t ds u S nx = .ok outs) :
    ∃ x ∈ outs, Ends P b fn ρ S w cs x (lone (b.at a (.inRegion ops (i :: rest) :: items)) cs w) := by
  generalize hr : (execOp a.eval o).run P w = r at hnx
  cases hnx with
  | val he hv hso => exact hk.goOn C (hd.mono he.le) he hso hcs.refl (hcs.mono he.le) hv h (.one (step_value ho hw hr))
  | skip he hso => exact hk.goOn C (hd.mono he.le) he hso hcs.refl (hcs.mono he.le) (.tup .nil) h (.one (step_skipped ho hw hr))
  | pan he hv hso =>
    rename_i ρ1 w1 c
    obtain ⟨x, hx, hE⟩ := hp _ [{ v := c, recovered := false }] ρ1 _ w1 t a ds u cs outs _ (.cons hv rfl rfl .nil) (C.step he (C.tm.mono he.le)) (hd.mono he.le) (hcs.mono he.le) h
    exact ⟨x, hx, (hE.of_steps (.one (step_panics ho hw hr))).of_ext he hso hcs.refl⟩
  | enter ha => exact afterCall_ok hN hp hk C hd hcs ho hw ha hr h
  | defer hdf =>
    rename_i d cd
    have h' : wr (dstOf nt o.dst) t undefA (fun t => k t (d :: ds) u S) = .ok outs := h
    have C' : Ctx P E ρ S w t nt { a with defers := cd :: a.defers } := ⟨C.env, C.glob, C.tm, C.hr, C.facts⟩
    exact hk.goOn C' (.cons hdf hd) (Ext.refl C.hr) (.refl w) hcs.refl hcs (.tup .nil) h' (.one (step_deferred ho hw hr))
  | recover =>
    have h' : recoverK b.kind k (dstOf nt o.dst) t ds u S = .ok outs := h
    have hs := step_recover (P := P) (b := b) (k := items) (cs := cs) (rest := rest) ho hw hr
    unfold recoverK at h'
    cases hkind : b.kind with
    | deferred =>
      rw [hkind] at h'
      have hcs2 := hcs
      rw [hkind] at hcs2
      have := tryRecover_ok (a := a) (todo := .inRegion ops (i :: rest) :: items) hcs2 hkind
      cases ht : tryRecover (b.at a (.inRegion ops (i :: rest) :: items)) cs with
      | none =>
        rw [ht] at this hs
        simp only at this hs h'
        rw [this] at h'
        exact hk.goOn C hd (Ext.refl C.hr) (.refl w) hcs.refl hcs .nilIface h' (.one hs)
      | some p =>
        obtain ⟨v, cs'⟩ := p
        rw [ht] at this hs
        obtain ⟨q1, q2, q3⟩ := this
        simp only at hs h'
        exact hk.goOn C hd (Ext.refl C.hr) (.refl w) (by rw [hkind]; exact q1) (by rw [hkind]; exact q3) q2 h' (.one hs)
    | _ =>
      rw [hkind] at h'
      simp only at h'
      have ht : tryRecover (b.at a (.inRegion ops (i :: rest) :: items)) cs = none := by
        have hk2 : (b.at a (.inRegion ops (i :: rest) :: items)).kind = b.kind := rfl
        rw [hkind] at hcs
        cases hcs <;> (unfold tryRecover; rw [hk2, hkind])
      rw [ht] at hs
      exact hk.goOn C hd (Ext.refl C.hr) (.refl w) hcs.refl hcs .nilIface h' (.one hs)
  | fork hmem hv =>
    rename_i l p
    have h' : flatR (fun p => wr (dstOf nt o.dst) t p.1 fun t => k t ds u p.2) l = .ok outs := h
    obtain ⟨s, q1, q2⟩ := flatR_mem h' hmem
    have key : ∃ x ∈ s, Ends P b fn ρ S w cs x (lone (b.at a (.inRegion ops (i :: rest) :: items)) cs w) := by
      generalize hpp : ANext.val p.1 p.2 = nx at hv
      cases hv with
      | val he hv2 hso => cases hpp; exact hk.goOn C (hd.mono he.le) he hso hcs.refl (hcs.mono he.le) hv2 q1 (.one (step_value ho hw hr))
      | skip he hso =>
        injection hpp with hp1 hp2
        rw [hp1, hp2] at q1
        exact hk.goOn C (hd.mono he.le) he hso hcs.refl (hcs.mono he.le) (.tup .nil) q1 (.one (step_skipped ho hw hr))
      | _ => cases hpp
    obtain ⟨x, hx, hE⟩ := key
    exact ⟨x, q2 x hx, hE⟩

end
end Go.Ev

/- A verified evaluator. Part S33: boxes of operations; regions in the text's order. -/
namespace Go.Ev

section
variable {P : Program} {E : Env} {b : Frame} {fn : Func} {nt : Nat}

theorem genD_ok {ops : Array Oper} {i : Nat} {o : Oper} : ODOK P E b fn nt (.mk (genD E b.kind o.op (dstOf nt o.dst))) ops i o := by
  intro N pk k rest items hN hp hk ρ S w t a ds u cs outs C hd hcs ho hw h
  have h' : afterOp N b.kind pk k (dstOf nt o.dst) t ds u S (evOp E t S o.op) = .ok outs := h
  cases hq : evOp E t S o.op with
  | bad q => rw [hq] at h'; cases h'
  | ok nx =>
    rw [hq] at h'
    exact afterNext_ok hN hp hk C hd hcs ho hw (evOp_ok C hq) h'

/- A short cut that comes to what the operation comes to. -/
theorem short_ok {N : Nest} {pk : List APan → K} {k : K} {ops : Array Oper} {i : Nat} {rest : List Nat} {items : List Item} {o : Oper}
    {ρ : Rho} {S : St} {w : World} {t : T AV} {a : Act} {ds : List ADI} {u : AMode} {cs : List Frame} {outs : List Out}
    (hN : NestOK P E N) (hp : PanOK P E b fn nt pk) (hk : KOK P E b fn nt k (.inRegion ops rest :: items)) (C : Ctx P E ρ S w t nt a) (hd : DefsR ρ ds a.defers) (hcs : CsR ρ b.kind u cs)
    (ho : ops[i]? = some o) (hw : Region.wanted o (yielded ops a.tmps) = true) {v : AV} (he : evOp E t S o.op = .ok (.val v S)) (h : wr (dstOf nt o.dst) t v (fun t => k t ds u S) = .ok outs) :
    ∃ x ∈ outs, Ends P b fn ρ S w cs x (lone (b.at a (.inRegion ops (i :: rest) :: items)) cs w) :=
  afterNext_ok hN hp hk C hd hcs ho hw (evOp_ok C he) h

theorem opD_ok {ops : Array Oper} {i : Nat} {o : Oper} : ODOK P E b fn nt (opD E b.kind o.op (dstOf nt o.dst)) ops i o := by
  have gen := @genD_ok P E b fn nt ops i o
  unfold opD
  split
  · -- move
    rename_i x hop
    intro N pk k rest items hN hp hk ρ S w t a ds u cs outs C hd hcs ho hw h
    have h' : rd (srcOf E x) t (fun v => wr (dstOf nt o.dst) t v fun t => k t ds u S) = .ok outs := h
    obtain ⟨v, h1, h2, h3⟩ := rd_ok C.glob C.tm h'
    refine short_ok hN hp hk C hd hcs ho hw (v := v) ?_ h3
    rw [hop]; show valR S (evO E t x) = _; rw [h2]; rfl
  · rename_i x hop
    intro N pk k rest items hN hp hk ρ S w t a ds u cs outs C hd hcs ho hw h
    have h' : rd (srcOf E x) t (fun v => wr (dstOf nt o.dst) t v fun t => k t ds u S) = .ok outs := h
    obtain ⟨v, h1, h2, h3⟩ := rd_ok C.glob C.tm h'
    refine short_ok hN hp hk C hd hcs ho hw (v := v) ?_ h3
    rw [hop]; show valR S (evO E t x) = _; rw [h2]; rfl
  · rename_i bop tt x y yt hop
    split
    · exact gen
    · rename_i hs
      intro N pk k rest items hN hp hk ρ S w t a ds u cs outs C hd hcs ho hw h
      have h' : rd (srcOf E x) t (fun va => rd (srcOf E y) t fun vb =>
        match va with
        | .int j m => (match vb with
          | .int j' n => (match kindEq j j' with
            | true => (match aInt bop j m n with | .ok v => wr (dstOf nt o.dst) t v fun t => k t ds u S | .bad w => .bad w)
            | false => .bad "kinds")
          | _ => genD E b.kind o.op (dstOf nt o.dst) N pk k t ds u S)
        | _ => genD E b.kind o.op (dstOf nt o.dst) N pk k t ds u S) = .ok outs := h
      obtain ⟨va, h1, h2, h3⟩ := rd_ok C.glob C.tm h'
      obtain ⟨vb, h4, h5, h6⟩ := rd_ok C.glob C.tm h3
      split at h6
      · split at h6
        · split at h6
          · rename_i hkq
            split at h6
            · rename_i v hv
              refine short_ok hN hp hk C hd hcs ho hw (v := v) ?_ h6
              rw [hop]
              show ((evO E t x).bind fun a => (evO E t y).bind fun b => aBin E S bop tt x y a b) = _
              rw [h2, h5]
              simp only [R.bind, aBin, hs, hkq, hv]
              rfl
            · cases h6
          · cases h6
        · exact gen N pk k rest items hN hp hk ρ S w t a ds u cs outs C hd hcs ho hw h6
      · exact gen N pk k rest items hN hp hk ρ S w t a ds u cs outs C hd hcs ho hw h6
  · rename_i args ts hop
    split
    · rename_i x tt tr hargs hts
      intro N pk k rest items hN hp hk ρ S w t a ds u cs outs C hd hcs ho hw h
      have h' : rd (srcOf E x) t (fun v => match lenV S (lenKindOf E tt) v with
        | .ok n => wr (dstOf nt o.dst) t (.int .i64 (Int.ofNat n)) fun t => k t ds u S
        | .bad w => .bad w) = .ok outs := h
      obtain ⟨v, h1, h2, h3⟩ := rd_ok C.glob C.tm h'
      split at h3
      · rename_i n hn
        refine short_ok hN hp hk C hd hcs ho hw (v := .int .i64 (Int.ofNat n)) ?_ h3
        rw [hop]
        show evCall E t S _ = _
        unfold evCall
        simp only [hargs, hts]
        show ((evO E t x).bind fun a => (R.ok []).bind fun l => R.ok (a :: l)).bind _ = _
        rw [h2]
        show (lenB E S tt v).bind _ = _
        unfold lenB
        rw [hn]; rfl
      · cases h3
    · exact gen
  · rename_i f args ts hop
    split
    · rename_i hpl
      intro N pk k rest items hN hp hk ρ S w t a ds u cs outs C hd hcs ho hw h
      have h' : (match evOs E t args.toList with
        | .ok vs => afterCall pk k (dstOf nt o.dst) t ds u (N.call f vs .normal .run S)
        | .bad w => .bad w) = .ok outs := h
      split at h'
      · rename_i vs hvs
        have hev : evOp E t S o.op = .ok (.enter f vs) := by
          rw [hop]
          show evCall E t S _ = _
          unfold evCall
          simp only [hvs]
          show aCallFunc E S f (([] ++ vs) ++ []) = _
          unfold aCallFunc
          unfold plainFn at hpl
          split at hpl
          · rename_i fnn hfn
            rw [hfn]
            simp only [List.nil_append, List.append_nil]
            rfl
          · cases hpl
        exact afterNext_ok hN hp hk C hd hcs ho hw (evOp_ok C hev) h'
      · cases h'
    · exact gen
  · exact gen

/- One operation of a region, wanted or not. -/
theorem operD_ok {N : Nest} {pk : List APan → K} {k : K} {ops : Array Oper} {i : Nat} {rest : List Nat} {items : List Item} {o : Oper}
    {ρ : Rho} {S : St} {w : World} {t : T AV} {a : Act} {ds : List ADI} {u : AMode} {cs : List Frame} {outs : List Out}
    (hN : NestOK P E N) (hp : PanOK P E b fn nt pk) (hk : KOK P E b fn nt k (.inRegion ops rest :: items)) (C : Ctx P E ρ S w t nt a) (hd : DefsR ρ ds a.defers) (hcs : CsR ρ b.kind u cs)
    (ho : ops[i]? = some o) (h : runOD (operD E nt b.kind ops.toList o) N pk k t ds u S = .ok outs) :
    ∃ x ∈ outs, Ends P b fn ρ S w cs x (lone (b.at a (.inRegion ops (i :: rest) :: items)) cs w) := by
  have hwant := wanted_ok C.tm ops o
  unfold operD at h
  split at h
  · rename_i hg
    have hw : Region.wanted o (yielded ops a.tmps) = true := by rw [← hwant, hg]; rfl
    exact opD_ok N pk k rest items hN hp hk ρ S w t a ds u cs outs C hd hcs ho hw h
  · rename_i g hg
    have h' : (match guardA ops.toList t g with
      | true => runOD (opD E b.kind o.op (dstOf nt o.dst)) N pk k t ds u S
      | false => wr (dstOf nt o.dst) t undefA fun t => k t ds u S) = .ok outs := h
    have hwg : Region.wanted o (yielded ops a.tmps) = guardA ops.toList t g := by rw [← hwant, hg]; rfl
    split at h'
    · rename_i hq
      exact opD_ok N pk k rest items hN hp hk ρ S w t a ds u cs outs C hd hcs ho (by rw [hwg, hq]) h'
    · rename_i hq
      have hs := step_op_skip (P := P) (b := b) (a := a) (k := items) (cs := cs) (w := w) (ops := ops) (i := i) (rest := rest) (by rw [ho]; simp [hwg, hq])
      rw [ho] at hs
      exact hk.goOn C hd (Ext.refl C.hr) (.refl w) hcs.refl hcs (.tup .nil) h' (.one hs)

theorem opsD_ok {ops : Array Oper} {items : List Item} {N : Nest} {pk : List APan → K} (hN : NestOK P E N) (hp : PanOK P E b fn nt pk) :
    ∀ (os : List Oper) (j : Nat) (k : K), os = ops.toList.drop j → j ≤ ops.size → KOK P E b fn nt k items → KOK P E b fn nt (runOD (opsD E nt b.kind ops.toList os) N pk k) (.inRegion ops (List.range' j (ops.size - j)) :: items) := by
  intro os
  induction os with
  | nil =>
    intro j k he hj hk ρ S w t a ds u cs outs C hd hcs h
    have hjs : ops.size - j = 0 := by
      have := congrArg List.length he
      simp at this; omega
    rw [hjs]
    obtain ⟨o, h1, h2⟩ := hk ρ S w t a ds u cs outs C hd hcs h
    exact ⟨o, h1, h2.of_steps (.one step_region_end)⟩
  | cons o os ih =>
    intro j k he hj hk ρ S w t a ds u cs outs C hd hcs h
    have hlen := congrArg List.length he
    simp at hlen
    have hjs : ops.size - j = (ops.size - (j + 1)) + 1 := by omega
    have ho : ops[j]? = some o := by
      have := congrArg (·[0]?) he
      simpa using this.symm
    have hos : os = ops.toList.drop (j + 1) := by
      have := congrArg List.tail he
      simpa using this
    rw [hjs, List.range'_succ]
    exact operD_ok hN hp (ih (j + 1) k hos (by omega) hk) C hd hcs ho h

end
end Go.Ev

/- A verified evaluator. Part S34: results; deferred calls; leaving. -/
namespace Go.Ev

section
variable {P : Program} {E : Env}

theorem aLoadVar_ok {ρ : Rho} {S : St} {w : World} (K : EnvOK P E) (H : HR ρ S w.heap) {tt : TypeId} {x v : AV} {cx : Value} (h : aLoad E S tt x = .ok v) (hx : VR ρ x cx) :
    ∃ A c, (asAddr cx).run P w = .ok A w ∧ (loadVar tt A).run P w = .ok c w ∧ VR ρ v c := by
  unfold aLoad at h
  obtain ⟨i, h4, h5⟩ := R.bind_ok h
  have hi := tiOf_ok K h4
  split at h5
  · cases hx with | ptr hL =>
    rename_i b o L
    refine ⟨⟨L.blk, L.sh + o, none⟩, ?_⟩
    have hA : ∀ A : Addr, (asAddr (.pointer (some A))).run P w = .ok A w := fun _ => rfl
    split at h5
    · rename_i ha
      obtain ⟨l, g1, rfl⟩ := R.map_ok h5
      obtain ⟨cs, c1, c2, c3, c4⟩ := load_ok (P := P) H g1 hL
      refine ⟨.agg cs.toArray, hA _, ?_, .agg (by simpa using c1)⟩
      simp only [loadVar, Sem.run_bind, Result.andThen_ok, hi.run_agg w, ha, if_true, hi.run_size w, c4, Sem.run_pure]
    · rename_i ha
      obtain ⟨l, g1, g2⟩ := R.bind_ok h5
      obtain ⟨cs, c1, c2, c3, c4⟩ := load_ok (P := P) H g1 hL
      cases c1 with
      | nil => cases g2
      | cons hv hs =>
        rename_i v0 c0 vs cs0
        cases g2
        have hc0 := c3 0 (by omega)
        refine ⟨c0, hA _, ?_, hv⟩
        simp only [loadVar, Sem.run_bind, Result.andThen_ok, hi.run_agg w, ha, Bool.false_eq_true, if_false, run_load]
        rw [show L.sh + o = L.sh + o + 0 from rfl, hc0]; rfl
  · cases h5

def resOne (tmps : Array Value) : ResultVar → Sem Value
  | .tmp t => pure (tmps.getD t undef)
  | .cell a t => do loadVar t (← asAddr (tmps.getD a undef))

theorem resultsL_ok {ρ : Rho} {S : St} {w : World} (K : EnvOK P E) (H : HR ρ S w.heap) {nt : Nat} {t : T AV} {a : Array Value} (ht : TmR ρ nt t a) :
    ∀ {rs : List ResultVar} {l : List AV}, resultsA E S t rs = .ok l → ∃ cs : List Value, (rs.mapM (resOne a) : Sem (List Value)).run P w = .ok cs w ∧ VRs ρ l cs := by
  intro rs
  have val : ∀ i, VR ρ (match t.get i with | some v => v | none => undefA) (a.getD i undef) := by
    intro i
    have := ht.vals i
    cases hq : t.get i with
    | none => rw [hq] at this; exact this
    | some v => rw [hq] at this; exact this
  induction rs with
  | nil => intro l h; cases h; exact ⟨[], by simp [List.mapM_nil], .nil⟩
  | cons r rs ih =>
    intro l h
    cases r with
    | tmp i =>
      have h' : (resultsA E S t rs).bind (fun l => R.ok ((match t.get i with | some v => v | none => undefA) :: l)) = .ok l := h
      obtain ⟨l', h1, h2⟩ := R.bind_ok h'
      cases h2
      obtain ⟨cs, r1, r2⟩ := ih h1
      refine ⟨a.getD i undef :: cs, ?_, .cons (val i) r2⟩
      rw [List.mapM_cons]
      have h0 : (resOne a (.tmp i)).run P w = .ok (a.getD i undef) w := rfl
      simp only [Sem.run_bind, h0, r1, Sem.run_pure, Result.andThen_ok]
    | cell i tt =>
      have h' : (aLoad E S tt (match t.get i with | some v => v | none => undefA)).bind (fun v => (resultsA E S t rs).bind fun l => R.ok (v :: l)) = .ok l := h
      obtain ⟨v, h1, h2⟩ := R.bind_ok h'
      obtain ⟨l', h3, h4⟩ := R.bind_ok h2
      cases h4
      obtain ⟨A, c, q1, q2, q3⟩ := aLoadVar_ok K H h1 (val i)
      obtain ⟨cs, r1, r2⟩ := ih h3
      refine ⟨c :: cs, ?_, .cons q3 r2⟩
      rw [List.mapM_cons]
      have h0 : (resOne a (.cell i tt)).run P w = .ok c w := by
        show (do loadVar tt (← asAddr (a.getD i undef)) : Sem Value).run P w = _
        simp only [Sem.run_bind, q1, q2, Result.andThen_ok]
      simp only [Sem.run_bind, h0, r1, Sem.run_pure, Result.andThen_ok]

theorem results_ok {ρ : Rho} {S : St} {w : World} (K : EnvOK P E) (H : HR ρ S w.heap) {nt : Nat} {t : T AV} {a : Array Value} (ht : TmR ρ nt t a) {fn : Func} {l : List AV}
    (h : resultsA E S t fn.results.toList = .ok l) : ∃ c, (results fn a).run P w = .ok c w ∧ VR ρ (resultA l) c := by
  obtain ⟨cs, r1, r2⟩ := resultsL_ok K H ht h
  have hm : (fn.results.mapM (resOne a) : Sem (Array Value)).run P w = .ok cs.toArray w := by
    rw [Array.mapM_eq_mapM_toList]
    simp only [map_eq_pure_bind, Sem.run_bind, r1, Result.andThen_ok, Sem.run_pure]
  have hres : (results fn a).run P w = .ok (if h : cs.toArray.size = 1 then cs.toArray[0] else .tuple cs.toArray) w := by
    have : results fn a = (do let vs ← fn.results.mapM (resOne a); pure (if h : vs.size = 1 then vs[0] else .tuple vs)) := by
      unfold results
      congr 1
    rw [this, Sem.run_bind, hm]; rfl
  refine ⟨_, hres, ?_⟩
  unfold resultA
  split
  · obtain ⟨c, rfl, hv⟩ := r2.one
    exact hv
  · rename_i hne
    have : ¬ cs.toArray.size = 1 := by
      intro h1
      have : l.length = 1 := by rw [r2.length]; simpa using h1
      obtain ⟨v, rfl⟩ := List.length_eq_one_iff.1 this
      exact hne v rfl
    rw [dif_neg this]
    exact .tup (by simpa using r2)

variable {b : Frame} {fn : Func} {nt : Nat}

def settleM (m : FrameMode) : FrameMode :=
  match m with
  | .panicking ({ recovered := true, .. } :: older) => (match older.dropWhile (!·.goexit) with | [] => .returning | rest => .panicking rest)
  | m => m

def raisedM (c : List PanicEntry) (m : FrameMode) : FrameMode :=
  match m with
  | .panicking chain => .panicking (c ++ chain)
  | _ => .panicking c

theorem ModeR.settle {ρ : Rho} {u : AMode} {m : FrameMode} (h : ModeR ρ u m) : ModeR ρ (settleA u) (settleM m) := by
  cases h with
  | run => exact .run
  | returning => exact .returning
  | panicking hp =>
    cases hp with
    | nil => exact .panicking .nil
    | cons hv hr hg hs =>
      rename_i p e ps es
      obtain ⟨pv, pr⟩ := p
      obtain ⟨ev, er, eg⟩ := e
      simp only at hr
      subst hr
      cases pr with
      | true =>
        simp only [settleM, hs.noexit]
        exact .returning
      | false => exact .panicking (.cons hv rfl hg hs)

theorem ModeR.raised {ρ : Rho} {u : AMode} {m : FrameMode} {ch : List APan} {c : List PanicEntry} (h : ModeR ρ u m) (hc : PansR ρ ch c) : ModeR ρ (raisedA u ch) (raisedM c m) := by
  cases h with
  | run => exact .panicking hc
  | returning => exact .panicking hc
  | panicking hp => exact .panicking (hc.append hp)

/- The machine's steps of a frame that unwinds. -/
theorem step_call_deferred {tmps : Array Value} {args0 : Array Value} {ds : List Deferred} {m : FrameMode} {todo : List Item} {cs : List Frame} {w w' : World} {f : FuncId} {args : Array Value} {fn' : Fn} {cap : Array Value}
    (hm : m ≠ .run) (hr : (invoke (.fn fn' cap) args0).run P w = .ok (.enter f args) w') :
    step P (lone (Frame.un b tmps ({ target := .fn fn' cap, args := args0 } :: ds) m todo) cs w) = .next (lone (Frame.enter P f args .deferred) (Frame.un b tmps ds m todo :: cs) w') := by
  refine step_lone_go ?_
  cases m with
  | run => exact absurd rfl hm
  | returning => simp [Frame.un, stepG, Go.unwind, callDeferred, hr]
  | panicking c => simp [Frame.un, stepG, Go.unwind, callDeferred, hr]

theorem step_deferred_back {tmps : Array Value} {ds : List Deferred} {m : FrameMode} {todo : List Item} {cs : List Frame} {fr : Frame} {w : World} {v : Value} {fn2 : Func}
    (hf : P.funcs[fr.fn]? = some fn2) (h1 : fr.mode = .returning) (h2 : fr.defers = []) (h3 : fr.kind = .deferred) (h4 : (results fn2 fr.tmps).run P w = .ok v w) :
    step P (lone fr (Frame.un b tmps ds m todo :: cs) w) = .next (lone (Frame.un b tmps ds (settleM m) todo) cs w) := by
  refine step_lone_go ?_
  cases m with
  | run => simp [stepG, Go.unwind, doReturn, h1, h2, h3, hf, h4, settleM, Frame.un]
  | returning => simp [stepG, Go.unwind, doReturn, h1, h2, h3, hf, h4, settleM, Frame.un]
  | panicking c =>
    cases c with
    | nil => simp [stepG, Go.unwind, doReturn, h1, h2, h3, hf, h4, settleM, Frame.un]
    | cons e older =>
      obtain ⟨ev, er, eg⟩ := e
      cases er with
      | false => simp [stepG, Go.unwind, doReturn, h1, h2, h3, hf, h4, settleM, Frame.un]
      | true =>
        cases hq : older.dropWhile (!·.goexit) with
        | nil => simp [stepG, Go.unwind, doReturn, h1, h2, h3, hf, h4, settleM, Frame.un, hq]
        | cons x xs => simp [stepG, Go.unwind, doReturn, h1, h2, h3, hf, h4, settleM, Frame.un, hq]

theorem step_deferred_panics {tmps : Array Value} {ds : List Deferred} {m : FrameMode} {todo : List Item} {cs : List Frame} {fr : Frame} {w : World} {c : List PanicEntry} {fn2 : Func}
    (hf : P.funcs[fr.fn]? = some fn2) (h1 : fr.mode = .panicking c) (h2 : fr.defers = []) :
    step P (lone fr (Frame.un b tmps ds m todo :: cs) w) = .next (lone (Frame.un b tmps ds (raisedM c m) todo) cs w) := by
  refine step_lone_go ?_
  cases m <;> simp [stepG, Go.unwind, Frame.catches, h1, h2, hf, raisedM, Frame.un, Frame.raise]

theorem unwind_ok {N : Nest} (hN : NestOK P E N) {t : T AV} {a : Array Value} :
    ∀ (ds : List ADI) (cds : List Deferred) (mode u : AMode) (m : FrameMode) (ρ : Rho) (S : St) (w : World) (cs : List Frame) (outs : List Out) (todo : List Item),
      EnvOK P E → GlobalsAt ρ E.nglob → TmR ρ nt t a → HR ρ S w.heap → FactsOK E ρ.sig → DefsR ρ ds cds → ModeR ρ mode m → CsR ρ b.kind u cs →
      Ev.unwind E N fn.results.toList t u ds mode S = .ok outs → ∃ o ∈ outs, Ends P b fn ρ S w cs o (lone (Frame.un b a cds m todo) cs w) := by
  intro ds
  induction ds with
  | nil =>
    intro cds mode u m ρ S w cs outs todo K hg ht H F hd hm hcs h
    cases hd
    have h' : finA E fn.results.toList t mode u S = .ok outs := h
    unfold finA at h'
    cases hm with
    | run => cases h'
    | returning =>
      simp only at h'
      obtain ⟨l, h1, h2⟩ := R.bind_ok h'
      cases h2
      obtain ⟨c, r1, r2⟩ := results_ok K H ht h1
      exact ⟨_, List.mem_singleton.2 rfl, ρ, w, _, cs, Steps.refl _ _, Ext.refl H, ⟨rfl, rfl, rfl, rfl, c, r1, r2⟩, hcs.refl, hcs, .refl w⟩
    | panicking hp =>
      cases h'
      exact ⟨_, List.mem_singleton.2 rfl, ρ, w, _, cs, Steps.refl _ _, Ext.refl H, ⟨rfl, rfl, rfl, _, rfl, hp⟩, hcs.refl, hcs, .refl w⟩
  | cons d ds ih =>
    intro cds mode u m ρ S w cs outs todo K hg ht H F hd hm hcs h
    cases hd with | cons hdd hds =>
    rename_i cd cds
    have h' : unwindOne E N d mode S (Ev.unwind E N fn.results.toList t u ds) = .ok outs := h
    unfold unwindOne at h'
    cases hdd with
    | collected e => cases h'
    | call hf hc ha =>
      rename_i fn1 fn1' cap args cap' args'
      simp only at h'
      split at h'
      · rename_i f args2 hrun hinv
        have C0 : Ctx P E ρ S w t nt { tmps := a, defers := [] } := ⟨K, hg, ht, H, F⟩
        have hnx := aInvoke_ok C0 hinv hf hc ha
        generalize hrr : (invoke (.fn fn1' cap') args').run P w = rr at hnx
        cases hnx with
        | enter hargs =>
          rename_i cargs
          have hmr : m ≠ .run := by
            intro e
            subst e
            cases hm
            cases hrun
          cases hcall : N.call f args2 .deferred mode S with
          | bad q => rw [hcall] at h'; cases h'
          | ok out =>
            rw [hcall] at h'
            obtain ⟨e, u', S1⟩ := out
            obtain ⟨fn2, hf2, ρ1, w1, fr, cs1, hs, he, hend, hto, hcs1, hso⟩ := hN f args2 .deferred mode S _ ρ w cargs (Frame.un b a cds m todo :: cs) hcall K hg H F hargs (.deferred hm)
            cases hto with | deferred =>
            rename_i m1
            cases hcs1 with | deferred hm1 =>
            have s1 := Steps.head (step_call_deferred (b := b) (tmps := a) (ds := cds) (todo := todo) (cs := cs) hmr hrr) hs
            obtain ⟨e1, e2, e3, e4⟩ := hend
            have hun : ({ Frame.un b a cds m todo with mode := m1 } : Frame) = Frame.un b a cds m1 todo := rfl
            rw [hun] at s1
            cases e with
            | ret v =>
              obtain ⟨q1, c, q2, q3⟩ := e4
              have s2 := s1.trans (.one (step_deferred_back (m := m1) (by rw [e1]; exact hf2) q1 e3 e2 q2))
              have h2 : Ev.unwind E N fn.results.toList t u ds (settleA u') S1 = .ok outs := h'
              obtain ⟨o, ho, hE⟩ := ih cds _ u _ ρ1 S1 w1 cs outs todo K (hg.mono he.le) (ht.mono he.le) he.hr (by rw [he.le.2]; exact F) (hds.mono he.le) hm1.settle (hcs.mono he.le) h2
              exact ⟨o, ho, (hE.of_steps s2).of_ext he hso hcs.refl⟩
            | pan ch =>
              obtain ⟨c, q1, q2⟩ := e4
              have s2 := s1.trans (.one (step_deferred_panics (m := m1) (by rw [e1]; exact hf2) q1 e3))
              have h2 : Ev.unwind E N fn.results.toList t u ds (raisedA u' ch) S1 = .ok outs := h'
              obtain ⟨o, ho, hE⟩ := ih cds _ u _ ρ1 S1 w1 cs outs todo K (hg.mono he.le) (ht.mono he.le) he.hr (by rw [he.le.2]; exact F) (hds.mono he.le) (hm1.raised q2) (hcs.mono he.le) h2
              exact ⟨o, ho, (hE.of_steps s2).of_ext he hso hcs.refl⟩
        | _ => cases hinv
      · cases h'

end
end Go.Ev

/- A verified evaluator. Part S35: code. -/
namespace Go.Ev

section
variable (P : Program) (E : Env) (b : Frame) (fn : Func) (nt : Nat)

structure ExOK (ex : Ex) (items : List Item) : Prop where
  exits : ∀ id k, findExit ex.exits id = some k → ∃ items', exitTo id items = some items' ∧ KOK P E b fn nt k items'
  retNone : RetOK P E b fn nt (ex.leave none)
  ret : RetOK P E b fn nt (ex.leave (some .ret))
  noExit : ∀ id t ds u S outs, ex.leave (some (.exit id)) t ds u S ≠ .ok outs
  panic : PanOK P E b fn nt ex.panic

def CDOK (d : CD) (c : Code) : Prop :=
  ∀ (N : Nest) (ex : Ex) (k : K) (items : List Item), NestOK P E N → ExOK P E b fn nt ex items → KOK P E b fn nt k items → KOK P E b fn nt (runCD d N ex k) (.code c :: items)

/- Regions that draw their order: shown in the next parts. -/
def DrawsOK : Prop :=
  ∀ (ops : Array Oper) (N : Nest) (k : K) (items : List Item), NestOK P E N → KOK P E b fn nt k items →
    ∀ (ρ : Rho) (S : St) (w : World) (t : T AV) (a : Act) (ds : List ADI) (u : AMode) (cs : List Frame) (outs : List Out) (tape : Nat), Ctx P E ρ S w t nt a → DefsR ρ ds a.defers → CsR ρ b.kind u cs →
      runRD (drawD ops.toList) E nt N ops.toList k t ds u S = .ok outs → ∃ o ∈ outs, Ends P b fn ρ S w cs o (lone (b.at a (.inRegion ops (Region.schedule (P.follows .mixedOrders) ops tape) :: items)) cs w)
end

section
variable {P : Program} {E : Env} {b : Frame} {fn : Func} {nt : Nat}

theorem ExOK.skip {ex : Ex} {items : List Item} (h : ExOK P E b fn nt ex items) {x : Item} (hx : ∀ id, exitTo id (x :: items) = exitTo id items) : ExOK P E b fn nt ex (x :: items) :=
  ⟨fun id k e => by rw [hx]; exact h.exits id k e, h.retNone, h.ret, h.noExit, h.panic⟩

theorem KOK.step {k : K} {todo todo' : List Item} (hk : KOK P E b fn nt k todo') (hs : ∀ (a : Act) (cs : List Frame) (w : World), step P (lone (b.at a todo) cs w) = .next (lone (b.at a todo') cs w)) : KOK P E b fn nt k todo := by
  intro ρ S w t a ds u cs outs C hd hcs h
  obtain ⟨o, h1, h2⟩ := hk ρ S w t a ds u cs outs C hd hcs h
  exact ⟨o, h1, h2.of_steps (.one (hs a cs w))⟩

theorem bad_ok {why : String} {todo : List Item} : KOK P E b fn nt (fun _ _ _ _ => .bad why) todo := by
  intro ρ S w t a ds u cs outs C hd hcs h; cases h

theorem step_scope {a : Act} {c : Code} {k : List Item} {cs : List Frame} {w : World} :
    step P (lone (b.at a (.code (.scope c) :: k)) cs w) = .next (lone (b.at a (.code c :: .inScope c :: k)) cs w) :=
  step_lone_go (by simp [stepG, stepG.exec, Frame.at])

theorem step_inScope {a : Act} {c : Code} {k : List Item} {cs : List Frame} {w : World} :
    step P (lone (b.at a (.inScope c :: k)) cs w) = .next (lone (b.at a k) cs w) :=
  step_lone_go (by simp [stepG, stepG.exec, Frame.at])

theorem runCD_mk (f : Nest → Ex → K → K) (N : Nest) (ex : Ex) (k : K) : runCD (.mk f) N ex k = f N ex k := rfl
theorem evC_loop (kind : CallKind) (x : Code) : evC E nt kind (.loop x) = .mk (loopC (evC E nt kind x)) := rfl

theorem evC_ok (hdraw : DrawsOK P E b fn nt) (c : Code) : CDOK P E b fn nt (evC E nt b.kind c) c := by
  induction c with
  | skip => intro N ex k items hN hex hk; exact KOK.step hk fun _ _ _ => step_skip
  | region id ops draw =>
    cases draw with
    | false =>
      intro N ex k items hN hex hk
      have := opsD_ok (ops := ops) (items := items) hN hex.panic ops.toList 0 k (by simp) (Nat.zero_le _) hk
      rw [Nat.sub_zero, ← List.range_eq_range'] at this
      exact KOK.step this fun _ _ _ => step_region
    | true =>
      intro N ex k items hN hex hk ρ S w t a ds u cs outs C hd hcs h
      obtain ⟨o, h1, h2⟩ := hdraw ops N k items hN hk ρ S { w with drawn := w.drawn + 1 } t a ds u cs outs (w.tape w.drawn (.order b.fn id)) ⟨C.env, C.glob, C.tm, C.hr, C.facts⟩ hd hcs h
      exact ⟨o, h1, h2.of_steps (.one step_region_draw)⟩
  | seq x y ihx ihy =>
    intro N ex k items hN hex hk
    have h2 := ihy N ex k items hN hex hk
    have h1 := ihx N ex _ (.code y :: items) hN (hex.skip fun _ => rfl) h2
    exact KOK.step h1 fun _ _ _ => step_seq
  | cond cnd x y ihx ihy =>
    intro N ex k items hN hex hk ρ S w t a ds u cs outs C hd hcs h
    have h' : rd (srcOf E cnd) t (fun v => match v with
      | .bool q => (match q with | true => runCD (evC E nt b.kind x) N ex k t ds u S | false => runCD (evC E nt b.kind y) N ex k t ds u S)
      | _ => .bad "cond") = .ok outs := h
    obtain ⟨v, h1, h2, h3⟩ := rd_ok C.glob C.tm h'
    split at h3
    · rename_i q
      generalize hq : a.eval cnd = cv at h1
      cases h1
      split at h3
      · obtain ⟨o, e1, e2⟩ := ihx N ex k items hN hex hk ρ S w t a ds u cs outs C hd hcs h3
        exact ⟨o, e1, e2.of_steps (.one (step_cond (t := true) hq))⟩
      · obtain ⟨o, e1, e2⟩ := ihy N ex k items hN hex hk ρ S w t a ds u cs outs C hd hcs h3
        exact ⟨o, e1, e2.of_steps (.one (step_cond (t := false) hq))⟩
    · cases h3
  | block id x ih =>
    intro N ex k items hN hex hk
    have hk' : KOK P E b fn nt k (.inBlock id :: items) := KOK.step hk fun _ _ _ => step_inBlock
    have hex' : ExOK P E b fn nt (ex.add id k) (.inBlock id :: items) := by
      obtain ⟨l, lv, pn⟩ := ex
      refine ⟨?_, hex.retNone, hex.ret, hex.noExit, hex.panic⟩
      intro id' k' e
      have e' : (match Nat.beq id id' with | true => some k | false => findExit l id') = some k' := e
      cases hq : Nat.beq id id' with
      | true =>
        rw [hq] at e'
        cases e'
        have := Nat.eq_of_beq_eq_true hq
        subst this
        exact ⟨items, by simp [exitTo], hk⟩
      | false =>
        rw [hq] at e'
        have hne := ne_of_nbeq hq
        obtain ⟨items', e1, e2⟩ := hex.exits id' k' e'
        refine ⟨items', ?_, e2⟩
        have : (id == id') = false := by simpa using hne
        simp [exitTo, this, e1]
    have := ih N (ex.add id k) k (.inBlock id :: items) hN hex' hk'
    exact KOK.step this fun _ _ _ => step_block
  | loop x ih =>
    intro N ex k items hN hex hk
    have hex' : ExOK P E b fn nt ex (.inLoop x :: items) := hex.skip fun _ => rfl
    have key : ∀ n, KOK P E b fn nt (loopK (runCD (evC E nt b.kind x) N ex) n) (.inLoop x :: items) := by
      intro n
      induction n with
      | zero => exact bad_ok
      | succ n ihn =>
        have := ih N ex _ (.inLoop x :: items) hN hex' ihn
        exact KOK.step this fun _ _ _ => step_inLoop
    have key2 : ∀ n, KOK P E b fn nt (loopK (runCD (evC E nt b.kind x) N ex) n) (.code (.loop x) :: items) := by
      intro n
      cases n with
      | zero => exact bad_ok
      | succ n => exact KOK.step (ih N ex _ (.inLoop x :: items) hN hex' (key n)) fun _ _ _ => step_loop
    have e : runCD (evC E nt b.kind (.loop x)) N ex k = loopK (runCD (evC E nt b.kind x) N ex) rounds := by
      rw [evC_loop, runCD_mk, loopC]
    rw [e]
    exact key2 rounds
  | rangeFunc f params assign body _ _ => intro N ex k items hN hex hk; exact bad_ok
  | exit id =>
    intro N ex k items hN hex hk ρ S w t a ds u cs outs C hd hcs h
    have h' : exitK ex id t ds u S = .ok outs := h
    unfold exitK at h'
    cases hq : findExit ex.exits id with
    | none => rw [hq] at h'; exact absurd h' (hex.noExit id t ds u S outs)
    | some k' =>
      rw [hq] at h'
      obtain ⟨items', e1, e2⟩ := hex.exits id k' hq
      obtain ⟨o, e3, e4⟩ := e2 ρ S w t a ds u cs outs C hd hcs h'
      exact ⟨o, e3, e4.of_steps (.one (step_exit e1))⟩
  | scope x ih =>
    intro N ex k items hN hex hk
    have hk' : KOK P E b fn nt k (.inScope x :: items) := KOK.step hk fun _ _ _ => step_inScope
    have := ih N ex k (.inScope x :: items) hN (hex.skip fun _ => rfl) hk'
    exact KOK.step this fun _ _ _ => step_scope
  | label l => intro N ex k items hN hex hk; exact KOK.step hk fun _ _ _ => step_label
  | goto l => intro N ex k items hN hex hk; exact bad_ok
  | ret =>
    intro N ex k items hN hex hk ρ S w t a ds u cs outs C hd hcs h
    obtain ⟨o, e1, e2⟩ := hex.ret ρ S w t a ds u cs outs (.code .ret :: items) C hd hcs h
    exact ⟨o, e1, e2.of_steps (.one step_ret)⟩
  | refuse why => intro N ex k items hN hex hk; exact bad_ok

theorem leave_ok {N : Nest} (hN : NestOK P E N) : RetOK P E b fn nt (leaveK E N fn.results.toList .returning) := by
  intro ρ S w t a ds u cs outs todo C hd hcs h
  exact unwind_ok hN ds a.defers .returning u .returning ρ S w cs outs todo C.env C.glob C.tm C.hr C.facts hd .returning hcs h

theorem frameEx_ok {N : Nest} (hN : NestOK P E N) : ExOK P E b fn nt (frameEx E N fn.results.toList) [] := by
  refine ⟨(fun id k e => by cases e), leave_ok hN, leave_ok hN, (fun id t ds u S outs h => by cases h), ?_⟩
  intro ch c ρ S w t a ds u cs outs todo hp C hd hcs h
  exact unwind_ok hN ds a.defers (.panicking ch) u (.panicking c) ρ S w cs outs todo C.env C.glob C.tm C.hr C.facts hd (.panicking hp) hcs h

end

/- A call. -/
theorem enter_ok {P : Program} {E : Env} {N : Nest} (hN : NestOK P E N) (hdraw : ∀ b fn nt, DrawsOK P E b fn nt) {f : FuncId} {args : List AV} {kind : CallKind} {u : AMode} {S : St} {outs : List Out} {ρ : Rho} {w : World} {cargs : Array Value} {cs : List Frame}
    (h : enterA E N f args kind u S = .ok outs) (K : EnvOK P E) (hg : GlobalsAt ρ E.nglob) (H : HR ρ S w.heap) (F : FactsOK E ρ.sig) (ha : VRs ρ args cargs.toList) (hcs : CsR ρ kind u cs) :
    ∃ fn, P.funcs[f]? = some fn ∧ ∃ o ∈ outs, Ends P { (default : Frame) with fn := f, kind := kind } fn ρ S w cs o (lone (Frame.enter P f cargs kind) cs w) := by
  unfold enterA fnD at h
  cases hf : E.funcs.get f with
  | none => rw [hf] at h; cases h
  | some fnn =>
    rw [hf] at h
    simp only at h
    cases hb : fnn.fn.body with
    | none => rw [hb] at h; cases h
    | some c =>
      rw [hb] at h
      simp only at h
      split at h
      · rename_i hle
        have hle' := Nat.le_of_ble_eq_true hle
        obtain ⟨hP, _⟩ := K.funcs f fnn hf
        refine ⟨fnn.fn, hP, ?_⟩
        generalize hbb : ({ (default : Frame) with fn := f, kind := kind } : Frame) = b
        have hbk : b.kind = kind := by rw [← hbb]
        have hlen : cargs.size = args.length := by have := ha.length; simp at this; exact this.symm
        have henter : Frame.enter P f cargs kind = b.at { tmps := cargs ++ Array.replicate (fnn.fn.ntmps - cargs.size) undef, defers := [] } [.code c] := by
          rw [← hbb]
          simp [Frame.enter, Frame.at, hP, hb]
        rw [henter]
        have hC : Ctx P E ρ S w (T.ofList .nil 0 args) fnn.fn.ntmps { tmps := cargs ++ Array.replicate (fnn.fn.ntmps - cargs.size) undef, defers := [] } := by
          refine ⟨K, hg, ⟨?_, ?_⟩, H, F⟩
          · simp; omega
          · intro i
            rw [T.get_ofList, T.get_nil]
            show VR ρ _ ((cargs ++ Array.replicate (fnn.fn.ntmps - cargs.size) undef).getD i undef)
            by_cases hi : i < args.length
            · rw [if_pos (by omega), Nat.sub_zero]
              have h1 : args[i]? = some args[i] := List.getElem?_eq_getElem hi
              obtain ⟨x, hx, hv⟩ := ha.get h1
              rw [h1, Array.getD_eq_getD_getElem?, Array.getElem?_append_left (by omega)]
              rw [Array.getElem?_toList] at hx
              rw [hx]; exact hv
            · rw [if_neg (by omega)]
              rw [Array.getD_eq_getD_getElem?, Array.getElem?_append_right (by omega)]
              have : ((Array.replicate (fnn.fn.ntmps - cargs.size) undef)[i - cargs.size]?).getD undef = undef := by
                cases hq : (Array.replicate (fnn.fn.ntmps - cargs.size) undef)[i - cargs.size]? with
                | none => rfl
                | some y =>
                  have hm := Array.mem_of_getElem? hq
                  rw [Array.mem_replicate] at hm
                  rw [hm.2]; rfl
              rw [this]; exact .tup .nil
        have hret : RetOK P E b fnn.fn fnn.fn.ntmps (leaveK E N fnn.fn.results.toList .returning) := leave_ok hN
        have hk : KOK P E b fnn.fn fnn.fn.ntmps (leaveK E N fnn.fn.results.toList .returning) [] := by
          intro ρ S w t a ds u cs outs C hd hcs h
          obtain ⟨o, e1, e2⟩ := hret ρ S w t a ds u cs outs [] C hd hcs h
          exact ⟨o, e1, e2.of_steps (.one step_end)⟩
        have := evC_ok (hdraw b fnn.fn fnn.fn.ntmps) c N _ _ [] hN (frameEx_ok hN) hk
        rw [hbk] at this
        exact this ρ S w _ _ [] u cs outs hC .nil (by rw [hbk]; exact hcs) h
      · cases h
end Go.Ev
