/- A verified evaluator of closed calls of a translated program, part 3 of 4: what it says of a call holds of the model for every tape. Conditions: the tables are the program's (EnvOK), and the heap is as it is said to be (HR). -/
import Derived.Test.YtdmjlimmllhhoaaGreatDoorEv2
import Derived.Lib.UnsafeStr
import Derived.Calls
import Derived.AtR
/- A verified evaluator. Part S26: maps: entries; iterators. -/
namespace Go.Ev

section
variable {P : Program} {E : Env} {ρ : Rho} {S : St} {w : World} {t : T AV} {nt : Nat} {a : Act} (C : Ctx P E ρ S w t nt a)
include C

theorem opRange_ok {tt : TypeId} {x : Operand} {nx : ANext} (h : opRange E t S tt x = .ok nx) :
    NextOK P ρ S w nx ((do pure (Next.value (← Instr.range tt (a.eval x))) : Sem Next).run P w) := by
  unfold opRange at h
  obtain ⟨v, h1, h2⟩ := R.bind_ok h
  obtain ⟨p, h3, rfl⟩ := valS_ok h2
  have hx := C.o h1
  generalize a.eval x = cx at hx
  unfold aRange at h3
  obtain ⟨i, h4, h5⟩ := R.bind_ok h3
  have hu := (tiOf_ok C.env h4).run_und w
  have fin : ∀ (o : AObj) (X : Obj), (match S.new o with | (b, S') => (R.ok (.ptr b 0, S') : R (AV × St))) = .ok p → OR (ρ.add S.next ⟨w.heap.size, 0, 0⟩) (w.heap.push X) o ⟨w.heap.size, 0, 0⟩ → o.group = none →
      NextOK P ρ S w (.val p.1 p.2) (.ok (.value (.pointer (some ⟨w.heap.size, 0, none⟩))) { w with heap := w.heap.push X }) := by
    intro o X hp hX hg
    have e := Ext.new C.hr hX (fun g hg' => by rw [hg] at hg'; cases hg')
    rw [St.new_eq] at hp
    cases hp
    refine .val (ρ' := ρ.add S.next ⟨w.heap.size, 0, 0⟩) ?_ ?_
    · rw [St.new_eq] at e; exact e
    · have := VR.ptr (ρ := ρ.add S.next ⟨w.heap.size, 0, 0⟩) (o := 0) Rho.add_at
      simpa using this
  split at h5
  · rename_i s hd
    rw [hd] at hu
    cases hx with | str hs =>
    rename_i b
    have hrun : (do pure (Next.value (← Instr.range tt (.string b))) : Sem Next).run P w = .ok (.value (.pointer (some ⟨w.heap.size, 0, none⟩))) { w with heap := w.heap.push (.stringIter b 0) } := by
      unfold Instr.range
      simp only [Sem.run_bind, hu, Result.andThen_ok, Sem.run_pure]
      rfl
    rw [hrun]
    exact fin _ _ h5 (.siter (by rw [Array.getElem?_push, if_pos rfl]) hs rfl) rfl
  · rename_i k e hd
    rw [hd] at hu
    cases hx
    have hrun : (do pure (Next.value (← Instr.range tt (.map none))) : Sem Next).run P w = .ok (.value (.pointer (some ⟨w.heap.size, 0, none⟩))) { w with heap := w.heap.push (.mapIter none 0 #[] 0) } := by
      unfold Instr.range
      simp only [Sem.run_bind, hu, Result.andThen_ok, Sem.run_pure]
      rfl
    rw [hrun]
    exact fin _ _ h5 (.miterNil (by rw [Array.getElem?_push, if_pos rfl]) rfl) rfl
  · rename_i k e m hd
    rw [hd] at hu
    obtain ⟨ec, g1, g2⟩ := R.bind_ok h5
    cases hx with | map hL =>
    rename_i L
    obtain ⟨hget, cs, c1, c2⟩ := mapOf_ok C.hr g1 hL
    have hrun : (do pure (Next.value (← Instr.range tt (.map (some L.blk)))) : Sem Next).run P w = .ok (.value (.pointer (some ⟨w.heap.size, 0, none⟩))) { w with heap := w.heap.push (.mapIter (some L.blk) ec.2 #[] ec.2) } := by
      unfold Instr.range
      simp only [Sem.run_bind, hu, Result.andThen_ok, run_getObj c1, Sem.run_pure]
      rfl
    rw [hrun]
    have hne : m ≠ S.next := fun e' => by rw [e', C.hr.next _ (Nat.le_refl _)] at hL; cases hL
    have hlt := C.hr.bound _ _ hL
    have hsame : (w.heap.push (.mapIter (some L.blk) ec.2 #[] ec.2))[L.blk]? = some (.map cs ec.2) := by rw [push_get hlt, c1]
    refine fin _ _ g2 (.miter (M := L) (seen := #[]) (stepped := ec.2) (by rw [Array.getElem?_push, if_pos rfl]) ((Rho.add_ne hne).trans hL) ?_ ?_ rfl rfl) rfl
    · intro cs2 c2' h2
      rw [hsame] at h2; cases h2; exact Nat.le_refl _
    · intro cs2 h2 e' he'
      rw [hsame] at h2; cases h2
      obtain ⟨l, l1, l2⟩ := c2.ents
      have hb : e'.born ∈ ec.1.map (·.born) := by
        have := List.mem_map_of_mem (f := (·.born)) he'
        rw [← l2.borns] at this
        exact (l1.map _).mem_iff.1 this
      simp [hb]
  · cases h5

end

theorem isIn_iff {n : Nat} : ∀ {l : List Nat}, isIn n l = true ↔ n ∈ l := by
  intro l
  induction l with
  | nil => simp [isIn]
  | cons m ms ih =>
    unfold isIn
    split
    · rename_i h; have := Nat.eq_of_beq_eq_true h; simp [this]
    · rename_i h; rw [ih]; have := ne_of_nbeq h; simp [this]

theorem without_iff {n k : Nat} : ∀ {l : List Nat}, k ∈ without n l ↔ k ∈ l ∧ k ≠ n := by
  intro l
  induction l with
  | nil => simp [without]
  | cons m ms ih =>
    unfold without
    split
    · rename_i h
      have := Nat.eq_of_beq_eq_true h; subst this
      rw [ih]; simp only [List.mem_cons]
      constructor
      · exact fun ⟨a, b⟩ => ⟨.inr a, b⟩
      · rintro ⟨a | a, b⟩
        · exact absurd a b
        · exact ⟨a, b⟩
    · rename_i h
      have := ne_of_nbeq h
      simp only [List.mem_cons, ih]
      constructor
      · rintro (a | ⟨a, b⟩)
        · exact ⟨.inl a, fun e => this (by rw [← e, a])⟩
        · exact ⟨.inr a, b⟩
      · rintro ⟨a | a, b⟩
        · exact .inl a
        · exact .inr ⟨a, b⟩

noncomputable def stepA (S : St) (r m since : Nat) (todo : List Nat) (e : AEnt) : AV × St :=
  (.tup [.bool true, e.key, e.val], S.put r (.miter (some m) since (without e.born todo) (some e.born)))

theorem waysNext_mem {S : St} {r m since : Nat} {todo : List Nat} : ∀ {es : List AEnt} {e : AEnt}, e ∈ es → e.born ∈ todo → stepA S r m since todo e ∈ waysNext S r m since todo es := by
  intro es
  induction es with
  | nil => intro e h; cases h
  | cons x es ih =>
    intro e h hb
    unfold waysNext
    rcases List.mem_cons.1 h with c | c
    · subst c; rw [isIn_iff.2 hb]; exact List.mem_cons_self
    · split
      · exact List.mem_cons_of_mem _ (ih c hb)
      · exact ih c hb

theorem waysNext_nil {S : St} {r m since : Nat} {todo : List Nat} : ∀ {es : List AEnt}, waysNext S r m since todo es = [] → ∀ e ∈ es, e.born ∉ todo := by
  intro es h e he hb
  have := waysNext_mem (S := S) (r := r) (m := m) (since := since) he hb
  rw [h] at this; cases this

theorem waysNext_none {S : St} {r m since : Nat} {todo : List Nat} : ∀ {es : List AEnt}, (∀ e ∈ es, e.born ∉ todo) → waysNext S r m since todo es = [] := by
  intro es
  induction es with
  | nil => intro _; rfl
  | cons x es ih =>
    intro h
    unfold waysNext
    split
    · rename_i hi; exact absurd (isIn_iff.1 hi) (h x (by simp))
    · exact ih fun e he => h e (by simp [he])

theorem choose_next {P : Program} (w : World) (n : Nat) : ∃ k w1, (choose (.mapNext n)).run P w = .ok k w1 ∧ (0 < n → k < n) ∧ w1.heap = w.heap ∧ SameOs w w1 := by
  simp only [choose, Sem.run]
  by_cases h : (Question.mapNext n).forced = true
  · rw [if_pos h]; exact ⟨0, w, rfl, fun h => h, rfl, .refl w⟩
  · rw [if_neg h]; exact ⟨_, _, rfl, fun h => Nat.mod_lt _ h, rfl, ⟨rfl, rfl, rfl⟩⟩

theorem EntsR.get {ρ : Rho} : ∀ {l : List AEnt} {c : List MapEntry}, EntsR ρ l c → ∀ e ∈ c, ∃ x ∈ l, EntR ρ x e
  | _, _, .nil, e, he => by cases he
  | _, _, .cons x xs, e, he => by
    rcases List.mem_cons.1 he with h | h
    · subst h; exact ⟨_, by simp, x⟩
    · obtain ⟨y, hy, hr⟩ := xs.get e h; exact ⟨y, by simp [hy], hr⟩

theorem EntsR.get' {ρ : Rho} : ∀ {l : List AEnt} {c : List MapEntry}, EntsR ρ l c → ∀ x ∈ l, ∃ e ∈ c, EntR ρ x e
  | _, _, .nil, e, he => by cases he
  | _, _, .cons x xs, e, he => by
    rcases List.mem_cons.1 he with h | h
    · subst h; exact ⟨_, by simp, x⟩
    · obtain ⟨y, hy, hr⟩ := xs.get' e h; exact ⟨y, by simp [hy], hr⟩

theorem bytes_drop {b : ByteArray} {pos : Nat} {c : Nat} {cs : List Nat} (h : (bytesOf b).drop pos = c :: cs) : pos < b.size ∧ (b.get! pos).toNat = c := by
  have hlt : pos < b.size := by
    rcases Nat.lt_or_ge pos b.size with a | a
    · exact a
    · rw [List.drop_eq_nil_of_le (by rw [bytesOf_length]; exact a)] at h; cases h
  refine ⟨hlt, ?_⟩
  have h1 : (bytesOf b)[pos]? = some c := by
    have := congrArg (·[0]?) h
    simpa using this
  unfold bytesOf at h1
  rw [List.getElem?_map, Array.getElem?_toList] at h1
  have hs : pos < b.data.size := hlt
  rw [Array.getElem?_eq_getElem hs] at h1
  have h2 : (b.data[pos]).toNat = c := by simpa using h1
  rw [← h2]
  show (b.data[pos]!).toNat = _
  rw [getElem!_pos b.data pos hs]

section
variable {P : Program} {E : Env} {ρ : Rho} {S : St} {w : World} {t : T AV} {nt : Nat} {a : Act} (C : Ctx P E ρ S w t nt a)
include C

theorem opNext_ok {x : Operand} {isString : Bool} {nx : ANext} (h : opNext E t S x isString = .ok nx) (tt : TypeId) :
    NextOK P ρ S w nx ((do pure (Next.value (← Instr.next (a.eval x) isString tt)) : Sem Next).run P w) := by
  unfold opNext at h
  obtain ⟨v, h1, h2⟩ := R.bind_ok h
  have hx := C.o h1
  generalize a.eval x = cx at hx
  unfold aNext at h2
  split at h2
  · rename_i r
    cases hx with | ptr hL =>
    rename_i L
    have hsh : ∀ o, S.heap.get r = some o → OR ρ w.heap o L := by
      intro o ho
      obtain ⟨L', e1, e2⟩ := C.hr.objs r o ho
      rw [hL] at e1; injection e1 with e1; subst e1; exact e2
    have over : NextOK P ρ S w (.val (.tup [.bool false]) S) (.ok (.value (.tuple #[.bool false])) w) := .val (Ext.refl C.hr) (.tup (.cons .bool .nil))
    split at h2
    · -- a string
      rename_i s pos hb
      cases hsh _ hb with | siter at_ hs sh0 =>
      rename_i b
      subst hs
      simp only [sh0, Nat.zero_add]
      split at h2
      · rename_i hd
        cases h2
        have hge : ¬ pos < b.size := by
          have := congrArg List.length hd
          rw [List.length_drop, bytesOf_length] at this
          simp at this; omega
        have hrun : (do pure (Next.value (← Instr.next (.pointer (some ⟨L.blk, 0, none⟩)) true tt)) : Sem Next).run P w = .ok (.value (.tuple #[.bool false])) w := by
          unfold Instr.next
          simp only [Sem.run_bind, run_getObj at_, Result.andThen_ok, if_neg hge, Sem.run_pure]
        rw [hrun]; exact over
      · rename_i c cs hd
        split at h2
        · rename_i hc
          cases h2
          obtain ⟨hlt, hg⟩ := bytes_drop hd
          have hc' : c < 128 := by simpa [Nat.blt_eq] using hc
          have hdec : Utf8.decode b pos = (c, 1) := by
            unfold Utf8.decode
            simp only [Nat.add_zero, hg]
            rw [if_pos hc']
          have hrun : (do pure (Next.value (← Instr.next (.pointer (some ⟨L.blk, 0, none⟩)) true tt)) : Sem Next).run P w =
              .ok (.value (.tuple #[.bool true, goInt pos, .int .i32 c])) { w with heap := w.heap.setIfInBounds L.blk (.stringIter b (pos + 1)) } := by
            unfold Instr.next
            simp only [Sem.run_bind, run_getObj at_, Result.andThen_ok, if_pos hlt, hdec, run_setObj at_, Sem.run_pure]
          rw [hrun]
          have hlb := C.hr.bound _ _ hL
          refine .val (ρ' := ρ) (Ext.put C.hr hb rfl hL rfl (.siter (b := b) ?_ rfl sh0) rfl ?_ (.inr ?_)) (.tup (.cons .bool (.cons .int (.cons .int .nil))))
          · rw [Array.getElem?_setIfInBounds, if_pos rfl, if_pos hlb]
          · intro b' o2 g _ _ hg'; cases hg'
          · intro cs2 c2 h2; cases h2
        · cases h2
    · -- a nil map
      rename_i hb
      cases h2
      cases hsh _ hb with | miterNil at_ sh0 =>
      simp only [sh0, Nat.zero_add]
      have hrun : (do pure (Next.value (← Instr.next (.pointer (some ⟨L.blk, 0, none⟩)) false tt)) : Sem Next).run P w = .ok (.value (.tuple #[.bool false])) w := by
        unfold Instr.next
        simp only [Sem.run_bind, run_getObj at_, Result.andThen_ok, Sem.run_pure]
      rw [hrun]; exact over
    · rename_i m since todo last hb
      obtain ⟨ec, g1, g2⟩ := R.bind_ok h2
      obtain ⟨_, g3, g4⟩ := R.bind_ok g2
      have hsi := Nat.eq_of_beq_eq_true (R.guard_ok g3)
      cases hsh _ hb with | miter at_ hM le left hl sh0 =>
      rename_i M seen stepped
      simp only [sh0, Nat.zero_add]
      obtain ⟨hget, cs, c1, c2⟩ := mapOf_ok C.hr g1 hM
      rw [hsi] at c1 c2
      have hleft := left cs c1
      obtain ⟨l, l1, l2⟩ := c2.ents
      have hnot : (!seen.isEmpty && !cs.isEmpty && cs.all (·.born ≥ stepped)) = false := by
        cases last with
        | none => subst hl; rfl
        | some b =>
          obtain ⟨_, hst⟩ := hl
          subst hst
          cases hcs : cs.isEmpty with
          | true => simp
          | false =>
            have hsz : 0 < cs.size := by
              rcases Nat.eq_zero_or_pos cs.size with h0 | h0
              · have := Array.eq_empty_of_size_eq_zero h0; subst this; cases hcs
              · exact h0
            have : cs.all (·.born ≥ stepped) = false := by
              rw [Array.all_eq_false]
              refine ⟨0, hsz, ?_⟩
              have := c2.old cs[0] (by simp)
              simp; omega
            rw [this, Bool.and_false]
      generalize hF : (cs.filter fun e => !seen.contains e.born) = F
      have hFm : ∀ e, e ∈ F ↔ e ∈ cs.toList ∧ e.born ∉ seen := by
        intro e; rw [← hF, Array.mem_filter]; simp
      have hold : F.filter (·.born < since) = F := by
        rw [Array.filter_eq_self]
        intro e he
        have := c2.old e ((hFm e).1 he).1
        simpa using this
      have hnew : F.filter (·.born ≥ since) = #[] := by
        rw [Array.filter_eq_empty_iff]
        intro e he
        have := c2.old e ((hFm e).1 he).1
        simpa using this
      have hpos : F.size = 0 ∨ 0 < F.size := Nat.eq_zero_or_pos _
      rcases hpos with h0 | h0
      · have hFe := Array.eq_empty_of_size_eq_zero h0
        rw [hFe] at hF hFm hold hnew
        have hn : waysNext S r m since todo ec.1 = [] := by
          refine waysNext_none fun x hx hb => ?_
          obtain ⟨e, he, hr⟩ := l2.get' x (l1.mem_iff.2 hx)
          have h1 := (hleft e he).1 (hr.born ▸ hb)
          have := (hFm e).2 ⟨he, h1⟩
          simp at this
        rw [hn] at g4
        cases g4
        have hch : (choose (.mapNext 1)).run P w = .ok 0 w := by simp [choose, Sem.run, Question.forced]
        have hrun : (do pure (Next.value (← Instr.next (.pointer (some ⟨L.blk, 0, none⟩)) false tt)) : Sem Next).run P w = .ok (.value (.tuple #[.bool false])) w := by
          unfold Instr.next
          simp only [Sem.run_bind, run_getObj at_, Result.andThen_ok, run_getObj c1, hnot, hF, hold, hnew]
          simp only [Array.isEmpty_empty, if_true, Array.append_empty, Array.map_empty, List.size_toArray, List.length_cons, List.length_nil, Nat.zero_add, Sem.run_bind, hch, Result.andThen_ok, Bool.false_eq_true, if_false]
          rfl
        rw [hrun]; exact over
      · have hFne : F.isEmpty = false := by
          cases hq : F.isEmpty with
          | false => rfl
          | true => rw [Array.isEmpty_iff.1 hq] at h0; cases h0
        obtain ⟨k, w1, hch, hk, hw1, hso⟩ := choose_next (P := P) w F.size
        have hk := hk h0
        have he : F[k] ∈ F := Array.getElem_mem hk
        obtain ⟨e1, e2⟩ := (hFm F[k]).1 he
        obtain ⟨x, hx, hr⟩ := l2.get F[k] e1
        have hxt : x.born ∈ todo := by rw [hr.born]; exact (hleft F[k] e1).2 e2
        have hmem := waysNext_mem (S := S) (r := r) (m := m) (since := since) (l1.mem_iff.1 hx) hxt
        have hlb := C.hr.bound _ _ hL
        have hrun : (do pure (Next.value (← Instr.next (.pointer (some ⟨L.blk, 0, none⟩)) false tt)) : Sem Next).run P w =
            .ok (.value (.tuple #[.bool true, F[k].key, F[k].val])) { w1 with heap := w1.heap.setIfInBounds L.blk (.mapIter (some M.blk) since (seen.push F[k].born) since) } := by
          have hg : (F.map some)[k]? = some (some F[k]) := by simp [hk]
          have hat1 : w1.heap[L.blk]? = some (.mapIter (some M.blk) since seen stepped) := by rw [hw1]; exact at_
          unfold Instr.next
          simp only [Sem.run_bind, run_getObj at_, Result.andThen_ok, run_getObj c1, hnot, hF, hold, hnew]
          simp only [hFne, Bool.false_eq_true, if_false, Array.append_empty, Array.empty_append, Array.size_map, Sem.run_bind, hch, Result.andThen_ok, hg, run_setObj hat1, Sem.run_pure]
        have key : NextOK P ρ S w (.val (stepA S r m since todo x).1 (stepA S r m since todo x).2)
            (.ok (.value (.tuple #[.bool true, F[k].key, F[k].val])) { w1 with heap := w1.heap.setIfInBounds L.blk (.mapIter (some M.blk) since (seen.push F[k].born) since) }) := by
          refine .val (ρ' := ρ) ?_ (.tup (.cons .bool (.cons hr.key (.cons hr.val .nil)))) ⟨hso.os, hso.tape, hso.output⟩
          show Ext ρ S w.heap ρ _ (w1.heap.setIfInBounds L.blk _)
          rw [hw1]
          have hne : M.blk ≠ L.blk := fun e => by rw [e, at_] at c1; cases c1
          have hsame : (w.heap.setIfInBounds L.blk (.mapIter (some M.blk) since (seen.push F[k].born) since))[M.blk]? = some (.map cs since) := by
            rw [Array.getElem?_setIfInBounds, if_neg (fun e => hne e.symm)]; exact c1
          refine Ext.put C.hr hb rfl hL rfl (.miter (M := M) (seen := seen.push F[k].born) (stepped := since) ?_ hM ?_ ?_ ?_ sh0) rfl ?_ (.inr ?_)
          · rw [Array.getElem?_setIfInBounds, if_pos rfl, if_pos hlb]
          · intro cs2 c2' h2; rw [hsame] at h2; cases h2; exact Nat.le_refl _
          · intro cs2 h2 e' he'
            rw [hsame] at h2; cases h2
            rw [without_iff, hleft e' he', hr.born]
            simp
          · simp [hr.born]
          · intro b' o2 g _ _ hg'; cases hg'
          · intro cs2 c2' h2; cases h2
        rw [hrun]
        split at g4
        · rename_i hq; rw [hq] at hmem; cases hmem
        · rename_i p hq
          rw [hq] at hmem
          cases g4
          have : stepA S r m since todo x = p := by simpa using hmem
          rw [← this]; exact key
        · cases g4
          exact .fork hmem key
    · cases h2
  · cases h2

end
end Go.Ev

/- A verified evaluator. Part S27: entries of maps. -/
namespace Go.Ev

theorem entryAt_ok {b : Nat} : ∀ {es : List AEnt} {v : AV}, entryAt b es = .ok v → ∃ x ∈ es, x.born = b ∧ v = .tup [x.key, x.val] := by
  intro es
  induction es with
  | nil => intro v h; cases h
  | cons e es ih =>
    intro v h
    unfold entryAt at h
    split at h
    · rename_i hb; cases h; exact ⟨e, by simp, Nat.eq_of_beq_eq_true hb, rfl⟩
    · obtain ⟨x, hx, h1, h2⟩ := ih h; exact ⟨x, by simp [hx], h1, h2⟩

theorem entry_one {l : List MapEntry} (hn : (l.map (·.born)).Nodup) {x y : MapEntry} (hx : x ∈ l) (hy : y ∈ l) (h : x.born = y.born) : x = y := by
  induction l with
  | nil => cases hx
  | cons z l ih =>
    simp only [List.map_cons, List.nodup_cons, List.mem_map, not_exists, not_and] at hn
    rcases List.mem_cons.1 hx with a | a <;> rcases List.mem_cons.1 hy with b | b
    · rw [a, b]
    · exact absurd (a ▸ h.symm) (hn.1 y b)
    · exact absurd (b ▸ h) (hn.1 x a)
    · exact ih hn.2 a b

section
variable {P : Program} {E : Env} {ρ : Rho} {S : St} {w : World} {t : T AV} {nt : Nat} {a : Act} (C : Ctx P E ρ S w t nt a)
include C

theorem opEntry_ok {x : Operand} {nx : ANext} (h : opEntry E t S x = .ok nx) :
    NextOK P ρ S w nx ((do pure (Next.value (← Instr.entry (a.eval x))) : Sem Next).run P w) := by
  unfold opEntry at h
  obtain ⟨v, h1, h2⟩ := R.bind_ok h
  obtain ⟨r0, h3, rfl⟩ := valR_ok h2
  have hx := C.o h1
  generalize a.eval x = cx at hx
  unfold aEntry at h3
  split at h3
  · rename_i r
    cases hx with | ptr hL =>
    rename_i L
    split at h3
    · rename_i m since todo b hb
      obtain ⟨ec, g1, g2⟩ := R.bind_ok h3
      obtain ⟨_, g3, g4⟩ := R.bind_ok g2
      have hsi := Nat.eq_of_beq_eq_true (R.guard_ok g3)
      obtain ⟨L', e1, e2⟩ := C.hr.objs r _ hb
      rw [hL] at e1; injection e1 with e1; subst e1
      cases e2 with | miter at_ hM le left hl sh0 =>
      rename_i M seen stepped
      obtain ⟨hbk, hst⟩ := hl
      subst hst
      simp only [sh0, Nat.zero_add]
      obtain ⟨hget, cs, c1, c2⟩ := mapOf_ok C.hr g1 hM
      rw [hsi] at c1 c2
      obtain ⟨l, l1, l2⟩ := c2.ents
      obtain ⟨y, hy, hyb, rfl⟩ := entryAt_ok g4
      obtain ⟨e, he, hr⟩ := l2.get' y (l1.mem_iff.2 hy)
      have hfind : cs.find? (·.born == b) = some e := by
        cases hf : cs.find? (·.born == b) with
        | none =>
          have := (Array.find?_eq_none.1 hf) e (by simpa using he)
          simp [← hr.born, hyb] at this
        | some e' =>
          have h1 : e'.born = b := by have := Array.find?_some hf; simpa using this
          have h2 : e' ∈ cs.toList := by have := Array.mem_of_find?_eq_some hf; simpa using this
          rw [entry_one c2.nodup h2 he (by rw [h1, ← hr.born, hyb])]
      refine quiet_val C (x := .tuple #[e.key, e.val]) ?_ (.tup (.cons hr.key (.cons hr.val .nil)))
      unfold Instr.entry
      simp only [Sem.run_bind, run_getObj at_, Result.andThen_ok, hbk, run_getObj c1, bne_self_eq_false, Bool.false_eq_true, if_false, hfind, Sem.run_pure]
    · cases h3
  · cases h3

theorem opEntryStore_ok {m s x : Operand} {nx : ANext} (h : opEntryStore E t S m s x = .ok nx) (tt : TypeId) :
    NextOK P ρ S w nx ((do Instr.entryStore tt (a.eval m) (a.eval s) (a.eval x); pure Next.skip : Sem Next).run P w) := by
  unfold opEntryStore at h
  obtain ⟨vm, h1, h2⟩ := R.bind_ok h
  obtain ⟨vs, h3, h4⟩ := R.bind_ok h2
  obtain ⟨v, h5, h6⟩ := R.bind_ok h4
  obtain ⟨S', h7, rfl⟩ := unitS_ok h6
  have hm := C.o h1
  have hs := C.o h3
  have hv := C.o h5
  generalize a.eval m = cm at hm
  generalize a.eval s = cst at hs
  generalize a.eval x = cv at hv
  unfold aEntryStore at h7
  split at h7
  · rename_i r
    obtain ⟨ec, g1, g2⟩ := R.bind_ok h7
    obtain ⟨n, g3, g4⟩ := R.bind_ok g2
    obtain ⟨es', g5, g6⟩ := R.bind_ok g4
    cases g6
    cases hm with | map hL =>
    rename_i L
    obtain ⟨k, rfl⟩ := asN_ok g3 hs
    obtain ⟨hget, cs, c1, c2⟩ := mapOf_ok C.hr g1 hL
    obtain ⟨l, l1, l2⟩ := c2.ents
    obtain ⟨p, y, q, b1, b2, b3⟩ := setBornA_ok g5
    have hnod : (l.map (·.born)).Nodup := by rw [l2.borns]; exact c2.nodup
    have hy : y ∈ l := l1.mem_iff.2 (by rw [b1]; simp)
    -- the entry's place
    have split : ∀ {l : List AEnt} {c : List MapEntry}, EntsR ρ l c → y ∈ l → ∃ l1 l2 c1 e c2, l = l1 ++ y :: l2 ∧ c = c1 ++ e :: c2 ∧ EntsR ρ l1 c1 ∧ EntR ρ y e ∧ EntsR ρ l2 c2 := by
      intro l
      induction l with
      | nil => intro c _ h; cases h
      | cons z l ih =>
        intro c hc hmem
        cases hc with | cons hz hs =>
        rcases List.mem_cons.1 hmem with e | e
        · subst e; exact ⟨[], l, [], _, _, rfl, rfl, .nil, hz, hs⟩
        · obtain ⟨u1, u2, u3, u4, u5, f1, f2, f3, f4, f5⟩ := ih hs e
          exact ⟨z :: u1, u2, _ :: u3, u4, u5, by rw [f1]; rfl, by rw [f2]; rfl, .cons hz f3, f4, f5⟩
    obtain ⟨p1, p2, d1, ex, d2, e1, e2, e3, e4, e5⟩ := split l2 hy
    have hidx : cs.findIdx? (fun e => (e.born : Int) == (n : Int)) = some d1.length := by
      rw [show cs = (d1 ++ ex :: d2).toArray by rw [← e2], List.findIdx?_toArray, List.findIdx?_append]
      have hno : d1.findIdx? (fun e => (e.born : Int) == (n : Int)) = none := by
        rw [List.findIdx?_eq_none_iff]
        intro z hz
        have hnd := c2.nodup
        rw [e2] at hnd
        have hzb : z.born ≠ ex.born := by
          intro heq
          rw [List.map_append, List.nodup_append] at hnd
          exact hnd.2.2 _ (List.mem_map_of_mem hz) ex.born (by simp) heq
        have hexn : ex.born = n := by rw [← e4.born, b2]
        rw [hexn] at hzb
        simp; omega
      have hexn : ex.born = n := by rw [← e4.born, b2]
      rw [hno]
      simp [List.findIdx?_cons, hexn]
    have hint : (asInt (.int k (n : Int))).run P w = .ok (n : Int) w := rfl
    have hrun : (Instr.entryStore tt (.map (some L.blk)) (.int k n) cv).run P w = .ok () { w with heap := w.heap.setIfInBounds L.blk (.map (cs.modify d1.length fun e => { e with val := cv }) ec.2) } := by
      unfold Instr.entryStore
      simp only [Sem.run_bind, run_getObj c1, Result.andThen_ok, hint, hidx]
      exact run_setObj c1
    simp only [Sem.run_bind, hrun, Result.andThen_ok, Sem.run_pure]
    refine .skip (ρ' := ρ) ?_
    have hcs' : (cs.modify d1.length fun e => { e with val := cv }).toList = d1 ++ { ex with val := cv } :: d2 := by
      rw [Array.toList_modify, e2, modify_mid]
    have hperm := l1
    rw [e1, b1] at hperm
    rw [e1] at hnod
    obtain ⟨f1, f2⟩ := perm_mid hperm hnod rfl
    refine Ext.putMap C.hr hget hL c1 ?_ (Nat.le_refl _) ?_
    · refine ⟨⟨p1 ++ { y with val := v } :: p2, ?_, ?_⟩, ?_, ?_⟩
      · rw [b3]
        exact List.perm_middle.trans ((List.Perm.cons _ f2).trans List.perm_middle.symm)
      · rw [hcs']
        exact e3.append (.cons ⟨e4.key, hv, e4.born⟩ e5)
      · intro z hz
        rw [hcs', List.mem_append, List.mem_cons] at hz
        rcases hz with hz | hz | hz
        · exact c2.old z (by rw [e2]; simp [hz])
        · subst hz; exact c2.old ex (by rw [e2]; simp)
        · exact c2.old z (by rw [e2]; simp [hz])
      · have := c2.nodup
        rw [e2] at this
        rw [hcs']
        simpa using this
    · intro _ z hz
      rw [hcs', List.mem_append, List.mem_cons] at hz
      rcases hz with hz | hz | hz
      · exact ⟨z, by rw [e2]; simp [hz], rfl⟩
      · subst hz; exact ⟨ex, by rw [e2]; simp, rfl⟩
      · exact ⟨z, by rw [e2]; simp [hz], rfl⟩
  · cases h7

theorem opMapEntry_ok {tt : TypeId} {x y : Operand} {nx : ANext} (h : opMapEntry E t S tt x y = .ok nx) :
    NextOK P ρ S w nx ((do pure (Next.value (← Instr.mapEntry tt (a.eval x) (a.eval y))) : Sem Next).run P w) := by
  unfold opMapEntry at h
  obtain ⟨m, h1, h2⟩ := R.bind_ok h
  obtain ⟨k, h3, h4⟩ := R.bind_ok h2
  obtain ⟨pr, h5, rfl⟩ := valS_ok h4
  have hm := C.o h1
  have hk := C.o h3
  generalize a.eval x = cm at hm
  generalize a.eval y = ck at hk
  unfold aMapEntry at h5
  obtain ⟨ke, g1, g2⟩ := R.bind_ok h5
  obtain ⟨ki, g3, g4⟩ := R.bind_ok g2
  obtain ⟨_, g5, g6⟩ := R.bind_ok g4
  have hp := R.guard_ok g5
  have hki := tiOf_ok C.env g3
  have hu := keyTypes_ok C.env g1 w
  have hck := checkKey_plain (P := P) (w := w) hki hp false ck
  split at g6
  · rename_i r
    obtain ⟨ec, g7, g8⟩ := R.bind_ok g6
    obtain ⟨f, g9, g10⟩ := R.bind_ok g8
    cases hm with | map hL =>
    rename_i L
    obtain ⟨hget, cs, c1, c2⟩ := mapOf_ok C.hr g7 hL
    obtain ⟨l, l1, l2⟩ := c2.ents
    obtain ⟨k1, k2, k3⟩ := findKey_ok C.env C.hr C.facts g3 g9 hk l1 l2
    cases f with
    | none =>
      have q0 : (zeroOf E ke.2).bind (fun z => R.ok ((.tup [z, .int .i64 (Int.ofNat ec.2)], S.put r (.map (insertKey ⟨k, z, ec.2⟩ ec.1) (ec.2 + 1))) : AV × St)) = .ok pr := g10
      obtain ⟨z, q1, q2⟩ := R.bind_ok q0
      cases q2
      unfold zeroOf at q1
      obtain ⟨i, q3, q4⟩ := R.bind_ok q1
      obtain ⟨cv, z1, z2, z3⟩ := (tiOf_ok C.env q3).run_zero (R.of_ok q4) w
      rw [firstHit_none l2 k2] at k1
      have hrun : (do pure (Next.value (← Instr.mapEntry tt (.map (some L.blk)) ck)) : Sem Next).run P w =
          .ok (.value (.tuple #[cv, goInt ec.2])) { w with heap := w.heap.setIfInBounds L.blk (.map (cs.push { key := ck, val := cv, born := ec.2 }) (ec.2 + 1)) } := by
        unfold Instr.mapEntry
        simp only [Sem.run_bind, hu, run_getObj c1, Result.andThen_ok, hck, k1, z1, run_setObj c1, Sem.run_pure]
      rw [hrun]
      refine .val (ρ' := ρ) ?_ (.tup (.cons (z3 ρ) (.cons .int .nil)))
      refine Ext.putMap C.hr hget hL c1 ?_ (by omega) (fun e => by omega)
      refine ⟨⟨l ++ [⟨k, z, ec.2⟩], ?_, ?_⟩, ?_, ?_⟩
      · refine List.Perm.trans ?_ (insertKey_perm _ _).symm
        exact (List.perm_append_singleton _ _).trans (l1.cons _)
      · rw [Array.toList_push]
        exact l2.append (.cons ⟨hk, z3 ρ, rfl⟩ .nil)
      · intro e he
        rw [Array.toList_push, List.mem_append] at he
        rcases he with he | he
        · have := c2.old e he; omega
        · simp at he; subst he; exact Nat.lt_succ_self _
      · rw [Array.toList_push, List.map_append, List.nodup_append]
        refine ⟨c2.nodup, by simp, ?_⟩
        intro a ha b hb
        simp at hb
        subst hb
        obtain ⟨e, he, rfl⟩ := List.mem_map.1 ha
        have := c2.old e he
        show e.born ≠ ec.2
        omega
    | some e =>
      have q0 : R.ok ((.tup [e.val, .int .i64 (Int.ofNat e.born)], S) : AV × St) = .ok pr := g10
      cases q0
      obtain ⟨p1, p2, d1, ex, d2, e1, e2, e3, e4, e5, e6, e7⟩ := firstHit_some (i := 0) l2 k2
      rw [e6] at k1
      have hke := k3 e (by rw [e1]; simp)
      rw [e7] at hke
      obtain ⟨s1, s2⟩ := keyEq_one C.env C.hr C.facts g3 hp hke hk e4.key
      have hat : cs[0 + d1.length]? = some ex := by rw [← Array.getElem?_toList, e2]; simp
      have hold : ((cs[0 + d1.length]?).map (·.key)).getD ck = ex.key := by rw [hat]; rfl
      have hborn : ((cs[0 + d1.length]?).map fun x => (x.born : Int)).getD 0 = (ex.born : Int) := by rw [hat]; rfl
      have hkt : (Instr.keyThatStays ex.key ck).run P w = .ok ck w := by
        unfold Instr.keyThatStays
        rw [← s1] at s2 ⊢
        rw [if_pos s2]; rfl
      have hsame : w.heap.setIfInBounds L.blk (.map (cs.modify (0 + d1.length) fun e => { e with key := ck }) ec.2) = w.heap := by
        have h1 : (cs.modify (0 + d1.length) fun e => { e with key := ck }) = cs := by
          apply Array.toList_inj.1
          rw [Array.toList_modify, e2, Nat.zero_add, modify_mid, s1]
        rw [h1]
        apply Array.ext_getElem?
        intro j
        rw [Array.getElem?_setIfInBounds]
        by_cases e : L.blk = j
        · subst e; rw [if_pos rfl, if_pos (C.hr.bound _ _ hL), c1]
        · rw [if_neg e]
      have hrun : (do pure (Next.value (← Instr.mapEntry tt (.map (some L.blk)) ck)) : Sem Next).run P w =
          .ok (.value (.tuple #[ex.val, goInt ex.born])) { w with heap := w.heap.setIfInBounds L.blk (.map (cs.modify (0 + d1.length) fun e => { e with key := ck }) ec.2) } := by
        unfold Instr.mapEntry
        simp only [Sem.run_bind, hu, run_getObj c1, Result.andThen_ok, hck, k1, hold, hborn, hkt, run_setObj c1, Sem.run_pure]
      rw [hrun]
      refine .val (ρ' := ρ) ?_ (.tup (.cons e4.val (.cons ?_ .nil)))
      · show Ext ρ S w.heap ρ S (w.heap.setIfInBounds L.blk _)
        rw [hsame]; exact Ext.refl C.hr
      · rw [← e4.born]; exact .int
  · cases g6

end
end Go.Ev

/- A verified evaluator. Part S28: built-ins. -/
namespace Go.Ev

/- Storing into a slice. -/
theorem storeInto_ok {P : Program} {ρ : Rho} {S S' : St} {w : World} (H : HR ρ S w.heap) {b o len cap : Nat} {c : ACap} {ad : Addr} {L : Loc} {vs : List AV} {cvs : List Value}
    (hs : S.store b o vs = .ok S') (hL : ρ.loc b = some L) (hc : capOk L o len c ad cap) (hv : VRs ρ vs cvs) (hz : cap = 0 → vs = []) :
    ∃ w', (storeCells ad cvs 0).run P w = .ok () w' ∧ Ext ρ S w.heap ρ S' w'.heap ∧ SameOs w w' := by
  rcases hc.2.1 with h0 | h0
  · have := hz h0; subst this
    cases hv
    have : S' = S := by unfold St.store at hs; cases hs; rfl
    subst this
    exact ⟨w, rfl, Ext.refl H, .refl w⟩
  · subst h0
    exact store_ok H hs hL hv

theorem max2A_ok {P : Program} {ρ : Rho} {w : World} {x y v : AV} {cx cy : Value} (h : max2A x y = .ok v) (hx : VR ρ x cx) (hy : VR ρ y cy) : ∃ c, (Builtin.max2 cx cy).run P w = .ok c w ∧ VR ρ v c := by
  unfold max2A at h
  split at h
  · cases h; cases hx; cases hy
    refine ⟨_, rfl, ?_⟩
    rw [intLt_ok]
    rename_i k a _ b
    by_cases hlt : a < b
    · simp only [hlt, decide_true, if_true]; exact .int
    · simp only [hlt, decide_false, if_false]; exact .int
  · cases h
    cases hx with | str e1 => cases hy with | str e2 =>
    rename_i a b s1 s2
    obtain ⟨c, r1, r2⟩ := aStr_ok (P := P) (w := w) (ρ := ρ) (op := .geq) (l := a) (m := b) (x := s1) (y := s2) (v := .bool (!(ltNats a b))) rfl e1 e2
    cases r2
    have hb : ∀ q : Bool, (asBool (.bool q)).run P w = .ok q w := fun _ => rfl
    cases hq : ltNats a b with
    | true =>
      rw [hq] at r1
      exact ⟨.string s2, by simp only [Builtin.max2, Sem.run_bind, r1, Result.andThen_ok, hb]; rfl, .str e2⟩
    | false =>
      rw [hq] at r1
      exact ⟨.string s1, by simp only [Builtin.max2, Sem.run_bind, r1, Result.andThen_ok, hb]; rfl, .str e1⟩
  · cases h

theorem leNats : ∀ a b : List Nat, (ltNats a b || eqNats a b) = !(ltNats b a)
  | [], [] => rfl
  | [], _ :: _ => rfl
  | _ :: _, [] => rfl
  | x :: a, y :: b => by
    have ih := leNats a b
    have hE : eqNats (x :: a) (y :: b) = (Nat.beq x y && eqNats a b) := by
      show Bool.rec (motive := fun _ => Bool) false (eqNats a b) (Nat.beq x y) = _
      cases Nat.beq x y <;> rfl
    rw [hE]
    simp only [ltNats]
    rcases Nat.lt_trichotomy x y with h | h | h
    · have h1 : Nat.blt x y = true := by rw [Nat.blt_eq]; exact h
      have h2 : Nat.blt y x = false := by cases q : Nat.blt y x with | false => rfl | true => rw [Nat.blt_eq] at q; omega
      have h3 : Nat.beq y x = false := nbeq (by omega)
      simp [h1, h2, h3]
    · subst h
      have h2 : Nat.blt x x = false := by cases q : Nat.blt x x with | false => rfl | true => rw [Nat.blt_eq] at q; omega
      simp only [h2, Nat.beq_refl, Bool.true_and]; exact ih
    · have h1 : Nat.blt y x = true := by rw [Nat.blt_eq]; exact h
      have h2 : Nat.blt x y = false := by cases q : Nat.blt x y with | false => rfl | true => rw [Nat.blt_eq] at q; omega
      have h3 : Nat.beq x y = false := nbeq (by omega)
      simp [h1, h2, h3]

theorem min2A_ok {P : Program} {ρ : Rho} {w : World} {x y v : AV} {cx cy : Value} (h : min2A x y = .ok v) (hx : VR ρ x cx) (hy : VR ρ y cy) : ∃ c, (Builtin.min2 cx cy).run P w = .ok c w ∧ VR ρ v c := by
  unfold min2A at h
  split at h
  · cases h; cases hx; cases hy
    refine ⟨_, rfl, ?_⟩
    rw [intLt_ok]
    rename_i k a _ b
    by_cases hlt : b < a
    · simp only [hlt, decide_true, if_true]; exact .int
    · simp only [hlt, decide_false, if_false]; exact .int
  · cases h
    cases hx with | str e1 => cases hy with | str e2 =>
    rename_i a b s1 s2
    have hle : (ltNats a b || eqNats a b) = !(ltNats b a) := leNats a b
    obtain ⟨c, r1, r2⟩ := aStr_ok (P := P) (w := w) (ρ := ρ) (op := .leq) (l := a) (m := b) (x := s1) (y := s2) (v := .bool (ltNats a b || eqNats a b)) rfl e1 e2
    cases r2
    have hb : ∀ q : Bool, (asBool (.bool q)).run P w = .ok q w := fun _ => rfl
    rw [hle] at r1
    cases hq : ltNats b a with
    | true =>
      rw [hq] at r1
      exact ⟨.string s2, by simp only [Builtin.min2, Sem.run_bind, r1, Result.andThen_ok, hb]; rfl, .str e2⟩
    | false =>
      rw [hq] at r1
      exact ⟨.string s1, by simp only [Builtin.min2, Sem.run_bind, r1, Result.andThen_ok, hb]; rfl, .str e1⟩
  · cases h

theorem foldA_ok {P : Program} {ρ : Rho} {w : World} {f : AV → AV → R AV} {g : Value → Value → Sem Value} (hf : ∀ {x y v : AV} {cx cy : Value}, f x y = .ok v → VR ρ x cx → VR ρ y cy → ∃ c, (g cx cy).run P w = .ok c w ∧ VR ρ v c) :
    ∀ {r : List AV} {cr : List Value} {x v : AV} {cx : Value}, foldA f x r = .ok v → VR ρ x cx → VRs ρ r cr → ∃ c, (cr.foldlM g cx : Sem Value).run P w = .ok c w ∧ VR ρ v c := by
  intro r
  induction r with
  | nil => intro cr x v cx h hx hr; cases hr; cases h; exact ⟨cx, rfl, hx⟩
  | cons y r ih =>
    intro cr x v cx h hx hr
    cases hr with | cons hy hr =>
    obtain ⟨z, h1, h2⟩ := R.bind_ok h
    obtain ⟨c, r1, r2⟩ := hf h1 hx hy
    obtain ⟨c2, r3, r4⟩ := ih h2 r2 hr
    refine ⟨c2, ?_, r4⟩
    simp only [List.foldlM_cons, Sem.run_bind, r1, Result.andThen_ok, r3]

section
variable {P : Program} {E : Env} {ρ : Rho} {S : St} {w : World} {t : T AV} {nt : Nat} {a : Act} (C : Ctx P E ρ S w t nt a)
include C

theorem lenV_ok {tt : TypeId} {x : AV} {cx : Value} {n : Nat} (h : lenB E S tt x = .ok n) (hx : VR ρ x cx) {ts : Array TypeId} (hts : ts[0]? = some tt) (type : TypeId) :
    (Builtin.len_ ts type #[cx]).run P w = .ok (goInt n) w := by
  unfold lenB lenKindOf at h
  cases ht : tiOf E tt with
  | bad q => rw [ht] at h; cases h
  | ok i =>
    rw [ht] at h
    simp only at h
    have hu := (tiOf_ok C.env ht).run_und w
    have ha0 : (#[cx] : Array Value)[0]? = some cx := rfl
    unfold lenKind at h
    unfold Builtin.len_
    simp only [hts, ha0, Sem.run_bind, hu, Result.andThen_ok]
    split at h
    · rename_i hd
      rw [hd]
      unfold lenV at h
      simp only at h
      split at h
      · cases h; cases hx with | str e => rename_i s; subst e; rw [bytesOf_length]; rfl
      · cases h
    · rename_i hd
      rw [hd]
      unfold lenV at h
      simp only at h
      split at h
      · cases h; cases hx; rfl
      · cases h; cases hx; rfl
      · cases h
    · rename_i k e hd
      rw [hd]
      unfold lenV at h
      simp only at h
      split at h
      · cases h; cases hx; rfl
      · obtain ⟨ec, g1, g2⟩ := R.map_ok h
        subst g2
        cases hx with | map hL =>
        rename_i L
        obtain ⟨_, cs, c1, c2⟩ := mapOf_ok C.hr g1 hL
        obtain ⟨l, l1, l2⟩ := c2.ents
        simp only [Sem.run_bind, run_getObj c1, Result.andThen_ok, Sem.run_pure]
        have : ec.1.length = cs.size := by rw [← l1.length_eq, l2.length]; simp
        rw [this]
      · cases h
    · rename_i m e hd
      rw [hd]
      unfold lenV at h
      cases h
      cases cx <;> rfl
    · rename_i e hd
      rw [hd]
      cases hj : tiOf E e with
      | bad q => rw [hj] at h; cases h
      | ok j =>
        rw [hj] at h
        simp only at h
        have hv := (tiOf_ok C.env hj).run_und w
        split at h
        · rename_i m e' hd2
          rw [hd2] at hv
          cases h
          cases cx <;> simp only [Sem.run_bind, hv, Result.andThen_ok, Sem.run_pure]
        · cases h
    · cases h

theorem aCap_ok {tt : TypeId} {x v : AV} {cx : Value} (h : aCap E tt x = .ok v) (hx : VR ρ x cx) {ts : Array TypeId} (hts : ts[0]? = some tt) (type : TypeId) :
    ∃ c, (Builtin.cap_ ts type #[cx]).run P w = .ok c w ∧ VR ρ v c := by
  unfold aCap at h
  obtain ⟨i, h1, h2⟩ := R.bind_ok h
  have hu := (tiOf_ok C.env h1).run_und w
  have ha0 : (#[cx] : Array Value)[0]? = some cx := rfl
  unfold Builtin.cap_
  simp only [hts, ha0, Sem.run_bind, hu, Result.andThen_ok]
  split at h2
  · rename_i hd
    rw [hd]; cases h2; cases hx
    exact ⟨_, rfl, .int⟩
  · rename_i hd
    rw [hd]; cases h2
    cases hx with | slice hL hc =>
    have := hc.2.2
    simp only at this
    subst this
    exact ⟨_, rfl, .int⟩
  · cases h2

theorem aCopy_ok {tt : TypeId} {d x v : AV} {cd cx : Value} {S' : St} (h : aCopy E S tt d x = .ok (v, S')) (hd : VR ρ d cd) (hx : VR ρ x cx) {ts : Array TypeId} (hts : ts[0]? = some tt) (type : TypeId) :
    ∃ c w', (Builtin.copy_ ts type #[cd, cx]).run P w = .ok c w' ∧ VR ρ v c ∧ Ext ρ S w.heap ρ S' w'.heap ∧ SameOs w w' := by
  unfold aCopy at h
  obtain ⟨ei, h1, h2⟩ := R.bind_ok h
  obtain ⟨m, h3, h4⟩ := R.bind_ok h2
  obtain ⟨dl, h5, h6⟩ := R.bind_ok h4
  obtain ⟨cs, h7, h8⟩ := R.bind_ok h6
  obtain ⟨S2, h9, h10⟩ := R.bind_ok h8
  cases h10
  obtain ⟨u1, u2⟩ := elemT_ok C.env h1
  have hu : (underlying tt).run P w = .ok (.slice ei.1) w := by
    unfold underlying
    simp [u1]
  have hlen := lenA_ok (P := P) h3 hx w
  have hsz := u2.run_size w
  obtain ⟨cl, c1, c2, c3⟩ := firstCells_ok (P := P) C.hr h7 hx h3 (Nat.min_le_left _ _)
  have ha0 : (#[cd, cx] : Array Value)[0]? = some cd := rfl
  have ha1 : (#[cd, cx] : Array Value)[1]? = some cx := rfl
  unfold Builtin.copy_
  simp only [hts, ha0, ha1, Sem.run_bind, hu, Result.andThen_ok]
  unfold storeInto at h9
  split at h9
  · cases h9
    cases hd
    have hdl : dl = 0 := by simp [lenA] at h5; exact h5.symm
    subst hdl
    refine ⟨goInt ((Nat.min m 0 : Nat) : Int), w, ?_, .int, Ext.refl C.hr, .refl w⟩
    have := c2 w rfl
    simp only [Sem.run_bind, hlen, hsz, this, Result.andThen_ok, Sem.run_pure]
  · rename_i b o len c
    cases hd with | slice hL hc =>
    rename_i cap ad L
    have hdl : dl = len := by simp [lenA] at h5; exact h5.symm
    subst hdl
    obtain ⟨w', r1, r2, ro⟩ := storeInto_ok (P := P) C.hr h9 hL hc c1 (fun h0 => by
      have : dl = 0 := by have := hc.1; omega
      subst this
      have hl : cs.length = 0 := by rw [c1.length, c3]; simp
      exact List.length_eq_zero_iff.1 hl)
    refine ⟨goInt ((Nat.min m dl : Nat) : Int), w', ?_, .int, r2, ro⟩
    have := c2 w rfl
    simp only [Sem.run_bind, hlen, hsz, this, Result.andThen_ok, Sem.run_pure, r1]
  · cases h9

theorem aClear_ok {tt : TypeId} {x : AV} {cx : Value} {S' : St} (h : aClear E S tt x = .ok S') (hx : VR ρ x cx) {ts : Array TypeId} (hts : ts[0]? = some tt) (type : TypeId) :
    ∃ w', (Builtin.clear_ ts type #[cx]).run P w = .ok (.tuple #[]) w' ∧ Ext ρ S w.heap ρ S' w'.heap ∧ SameOs w w' := by
  unfold aClear at h
  obtain ⟨i, h1, h2⟩ := R.bind_ok h
  have hu := (tiOf_ok C.env h1).run_und w
  have ha0 : (#[cx] : Array Value)[0]? = some cx := rfl
  unfold Builtin.clear_
  simp only [hts, ha0, Sem.run_bind, hu, Result.andThen_ok]
  split at h2
  · cases h2; cases hx; exact ⟨w, rfl, Ext.refl C.hr, .refl w⟩
  · cases h2; cases hx; exact ⟨w, rfl, Ext.refl C.hr, .refl w⟩
  · obtain ⟨ec, g1, g2⟩ := R.bind_ok h2
    cases g2
    cases hx with | map hL =>
    rename_i r L
    obtain ⟨hget, cs, c1, c2⟩ := mapOf_ok C.hr g1 hL
    refine ⟨{ w with heap := w.heap.setIfInBounds L.blk (.map #[] ec.2) }, ?_, ?_, ⟨rfl, rfl, rfl⟩⟩
    · cases i.desc <;> simp only [Sem.run_bind, run_getObj c1, Result.andThen_ok, run_setObj c1, Sem.run_pure]
    · exact Ext.putMap (cs' := #[]) C.hr hget hL c1 ⟨⟨[], .nil, .nil⟩, by simp, by simp⟩ (Nat.le_refl _) (fun _ e he => by simp at he)
  · rename_i b o n c
    cases hx with | slice hL hc =>
    rename_i cap ad L
    split at h2
    · cases h2
      exact ⟨w, by cases i.desc <;> rfl, Ext.refl C.hr, .refl w⟩
    · rename_i n
      obtain ⟨ei, g1, g2⟩ := R.bind_ok h2
      obtain ⟨z, g3, g4⟩ := R.bind_ok g2
      obtain ⟨u1, u2⟩ := elemT_ok C.env g1
      have hdesc : i.desc = .slice ei.1 := by
        have := (tiOf_ok C.env h1).und
        rw [u1] at this; injection this with this; exact this.symm
      rw [hdesc]
      obtain ⟨v, z1, z2, z3⟩ := u2.run_zero (R.of_ok g3) w
      obtain ⟨w', r1, r2, ro⟩ := storeInto_ok (P := P) C.hr g4 hL hc (rep_zero (z3 ρ).cells (n + 1)) (fun h0 => by have := hc.1; omega)
      refine ⟨w', ?_, r2, ro⟩
      simp only [Sem.run_bind, z1, Result.andThen_ok, r1, Sem.run_pure]
  · cases h2

end
end Go.Ev

/- A verified evaluator. Part S29: unsafe.String; the built-ins together. -/
namespace Go.Ev

theorem liesAt_row {P : Program} {e : TypeId} (hc : P.cellsOf e = 1) (count off n : Nat) (hn : off + n ≤ count) : liesAt P P.depth e count off e n = true := by
  have hd : P.depth = (2 * (P.types.size + Made.depth) + 1) + 1 := rfl
  rw [hd]
  simp only [liesAt, Bool.or_eq_true]
  left
  rw [hd]
  simp [rowAt, hc, hn, sameLayout]
  exact .inl (Nat.mod_one off)

theorem frozen_more {L : Loc} {fr : Nat} {plain : Bool} {f : Nat × Nat} {o n : Nat} (h : frozenOk L fr plain L.N f) (hg : (plain || Nat.blt 0 fr) = true) :
    frozenOk L (max fr (o + n)) false L.N (if f.1 == f.2 then (L.sh + o, L.sh + o + n) else (min f.1 (L.sh + o), max f.2 (L.sh + o + n))) := by
  obtain ⟨h1, h2, h3⟩ := h
  have hor : f.1 = f.2 ∨ 0 < fr := by
    cases plain with
    | true => exact .inl (h2 rfl).1
    | false => simp [Nat.blt_eq] at hg; exact .inr hg
  by_cases e : f.1 = f.2
  · rw [if_pos (by simpa using e)]
    refine ⟨fun j a b => .inl ?_, (fun h => by cases h), fun _ => ?_⟩
    · simp only at b; omega
    · show L.sh + o + n ≤ _; omega
  · rw [if_neg (by simpa using e)]
    have hfr : 0 < fr := hor.resolve_left e
    have := h3 hfr
    refine ⟨fun j a b => .inl ?_, (fun h => by cases h), fun _ => ?_⟩
    · simp only at b; omega
    · show max f.2 (L.sh + o + n) ≤ _; omega

theorem VRs.one {ρ : Rho} {x : AV} {l : List Value} (h : VRs ρ [x] l) : ∃ c, l = [c] ∧ VR ρ x c := by
  cases h with
  | cons h hs => cases hs; exact ⟨_, rfl, h⟩

theorem VRs.two {ρ : Rho} {x y : AV} {l : List Value} (h : VRs ρ [x, y] l) : ∃ c d, l = [c, d] ∧ VR ρ x c ∧ VR ρ y d := by
  cases h with
  | cons h hs => obtain ⟨d, rfl, hd⟩ := hs.one; exact ⟨_, d, rfl, h, hd⟩

theorem VRs.head {ρ : Rho} {x : AV} {r : List AV} {l : List Value} (h : VRs ρ (x :: r) l) : ∃ c cr, l = c :: cr ∧ VR ρ x c ∧ VRs ρ r cr := by
  cases h with
  | cons h hs => exact ⟨_, _, rfl, h, hs⟩

section
variable {P : Program} {E : Env} {ρ : Rho} {S : St} {w : World} {t : T AV} {nt : Nat} {a : Act} (C : Ctx P E ρ S w t nt a)
include C

theorem freezeA_ok {b o n : Nat} {S' : St} {L : Loc} (h : S.freezeA b o n = .ok S') (hL : ρ.loc b = some L) (hn : 0 < n) : Ext ρ S w.heap ρ S' (w.freeze ⟨L.blk, L.sh + o, none⟩ n).heap := by
  unfold St.freezeA at h
  split at h
  · rename_i cs size elem ro g fr plain hb
    split at h
    · rename_i h1 h2 h3
      cases h
      have h2' := Nat.le_of_ble_eq_true h2
      obtain ⟨L', e1, e2⟩ := C.hr.objs b _ hb
      rw [hL] at e1; injection e1 with e1; subst e1
      have hlt := e2.lt
      cases e2 with | cells at_ hN hsz vals frz =>
      rename_i c f
      obtain ⟨ha, hab, han, hal, hsub⟩ := Ext.alone C.hr b g
      have hb' : (S.alone b g).heap.get b = some (.cells cs size elem false g fr plain) := by rw [hab, hb]
      have hheap : (w.freeze ⟨L.blk, L.sh + o, none⟩ n).heap = w.heap.setIfInBounds L.blk (.cells c elem (if f.1 == f.2 then (L.sh + o, L.sh + o + n) else (min f.1 (L.sh + o), max f.2 (L.sh + o + n)))) := by
        unfold World.freeze
        rw [if_neg (by omega)]
        apply Array.ext_getElem?
        intro k
        simp only [Array.getElem?_modify, Array.getElem?_setIfInBounds]
        by_cases e : L.blk = k
        · subst e; rw [if_pos rfl, if_pos rfl, if_pos hlt, at_]
          obtain ⟨lo, hi⟩ := f
          rfl
        · rw [if_neg e, if_neg e]
      rw [hheap]
      refine ha.trans (Ext.put ha.hr hb' rfl hL rfl ?_ rfl ?_ .cells)
      · refine .cells (c := c) ?_ hN hsz vals (frozen_more frz h3)
        rw [Array.getElem?_setIfInBounds, if_pos rfl, if_pos hlt]
      · intro b' o2 g' hne e2 g1 g2
        have g1' : some g = some g' := g1
        injection g1' with g1'
        subst g1'
        exact hal _ hb rfl b' o2 hne e2 g2
    · cases h
  · cases h

theorem aUnsafeString_ok {pT : TypeId} {p n v : AV} {cp cn : Value} {S' : St} (h : aUnsafeString E S pT p n = .ok (v, S')) (hp : VR ρ p cp) (hn : VR ρ n cn) {ts : Array TypeId} (hts : ts[0]? = some pT) (type : TypeId) :
    ∃ c w', (Builtin.unsafeString_ ts type #[cp, cn]).run P w = .ok c w' ∧ VR ρ v c ∧ Ext ρ S w.heap ρ S' w'.heap ∧ SameOs w w' := by
  unfold aUnsafeString at h
  obtain ⟨m, h1, h2⟩ := R.bind_ok h
  obtain ⟨k, rfl⟩ := asN_ok h1 hn
  have hint : (asInt (.int k (m : Int))).run P w = .ok (m : Int) w := rfl
  have hmax : IntKind.i64.max = 9223372036854775807 := rfl
  split at h2
  · -- no byte
    have key : ∀ q : Option Addr, (Builtin.unsafeString_ ts type #[.pointer q, .int k ((0 : Nat) : Int)]).run P w = .ok (.string .empty) w := by
      intro q
      have hdef : Builtin.unsafeString_ ts type #[.pointer q, .int k ((0 : Nat) : Int)] =
        (do
          let n ← asInt (.int k ((0 : Nat) : Int))
          let some pt := ts[0]? | stuck "unsafe.String: no argument types"
          if n < 0 then runtimePanic (.error "unsafe.String: len out of range")
          if n > IntKind.i64.max then unsupported (.unsafePointer "String: a length above the largest int")
          match q with
          | none =>
            if n = 0 then pure (.string .empty)
            else runtimePanic (.error "unsafe.String: ptr is nil and len is not zero")
          | some a =>
            if n = 0 then pure (.string .empty)
            else if ← variablesAt a (← elemOf pt) n.toNat then do
              let s ← loadBytes a .empty n.toNat
              freeze a n.toNat
              pure (.string s)
            else unsupported (.unsafePointer "String: not so many bytes at ptr")) := rfl
      rw [hdef]
      cases q <;> simp [hts, hmax, asInt, asIntOf]
    split at h2
    · cases h2; cases hp
      exact ⟨_, w, key none, .str rfl, Ext.refl C.hr, .refl w⟩
    · cases h2; cases hp
      exact ⟨_, w, key _, .str rfl, Ext.refl C.hr, .refl w⟩
    · cases h2
  · rename_i m
    split at h2
    · rename_i b o
      cases hp with | ptr hL =>
      rename_i L
      obtain ⟨i, h3, h4⟩ := R.bind_ok h2
      have hu := (tiOf_ok C.env h3).run_und w
      split at h4
      · rename_i e cs size elem g fr plain hd hb
        obtain ⟨j, h5, h6⟩ := R.bind_ok h4
        split at h6
        · rename_i hg
          simp only [Bool.and_eq_true] at hg
          obtain ⟨⟨g1, g2⟩, g3⟩ := hg
          have he := Nat.eq_of_beq_eq_true g1
          subst he
          have hj1 := Nat.eq_of_beq_eq_true g2
          have hmle := Nat.le_of_ble_eq_true g3
          obtain ⟨l, h7, h8⟩ := R.bind_ok h6
          obtain ⟨s, h9, h10⟩ := R.bind_ok h8
          obtain ⟨S2, h11, h12⟩ := R.bind_ok h10
          cases h12
          obtain ⟨cs2, c1, c2, c3, c4⟩ := load_ok (P := P) C.hr h7 hL
          obtain ⟨b1, b2⟩ := bytesA_ok h9 c1
          have hE := freezeA_ok C h11 hL (Nat.succ_pos m)
          obtain ⟨L', e1, e2⟩ := C.hr.objs b _ hb
          rw [hL] at e1; injection e1 with e1; subst e1
          have hslen : s.length = m + 1 := by rw [b2] at c2; simpa using c2
          obtain ⟨inf, i1, i2, i3, i4⟩ := (tiOf_ok C.env h5).info
          have hcells : P.cellsOf e = 1 := by
            unfold Program.cellsOf
            rw [i1]; simp [i2, hj1]
          have hbound : L.sh + o + (m + 1) ≤ L.N := by
            have : S.load b o (m + 1) = .ok l := h7
            unfold St.freezeA at h11
            rw [hb] at h11
            simp only at h11
            split at h11
            · rename_i q1 q2 q3
              have := Nat.le_of_ble_eq_true q2
              cases e2 with | cells at_ hN hsz vals frz => omega
            · cases h11
          cases e2 with | cells at_ hN hsz vals frz =>
          rename_i c f
          have hsh : w.shape? L.blk = some (e, c.size) := by simp [World.shape?, at_]
          have hlies : liesAt P P.depth e (c.size / P.cellsOf e) (L.sh + o) e (m + 1) = true :=
            liesAt_row hcells _ _ _ (by rw [hcells, hN]; simpa using hbound)
          have hlb := Lib.run_loadBytes (P := P) w (s.map UInt8.ofNat) ⟨L.blk, L.sh + o, none⟩ .empty (fun q x hx => by
            rw [Addr.add_none]
            have hq : q < m + 1 := by
              have := (List.getElem?_eq_some_iff.1 hx).1
              simp at this; omega
            rw [c3 q hq, b2]
            rw [List.getElem?_map] at hx ⊢
            have hq2 : q < s.length := by omega
            rw [List.getElem?_eq_getElem hq2] at hx ⊢
            simp only [Option.map_some, Option.some.injEq] at hx ⊢
            subst hx
            have := b1 s[q] (List.getElem_mem hq2)
            rw [UInt8.toNat_ofNat', Nat.mod_eq_of_lt this])
          rw [List.length_map, hslen] at hlb
          refine ⟨.string ⟨ByteArray.empty.data ++ (s.map UInt8.ofNat).toArray⟩, w.freeze ⟨L.blk, L.sh + o, none⟩ (m + 1), ?_, .str ?_, hE, ⟨rfl, rfl, rfl⟩⟩
          · rw [hd] at hu
            have n1 : ¬ (((m + 1 : Nat) : Int) < 0) := by omega
            have n2 : ¬ (((m + 1 : Nat) : Int) > IntKind.i64.max) := by rw [hmax]; omega
            have n3 : ¬ (((m + 1 : Nat) : Int) = 0) := by omega
            have hel : (elemOf pT).run P w = .ok e w := by
              simp only [elemOf, Sem.run_bind, hu, Result.andThen_ok, Sem.run_pure]
            have hvar : (variablesAt ⟨L.blk, L.sh + o, none⟩ e (m + 1)).run P w = .ok true w := by
              have hshape : (shape L.blk).run P w = .ok (some (e, c.size)) w := by
                have : (shape L.blk).run P w = .ok (w.shape? L.blk) w := rfl
                rw [this, hsh]
              simp only [variablesAt, Sem.run_bind, run_program, hshape, Result.andThen_ok, hlies, Sem.run_pure]
            have hfr : (freeze ⟨L.blk, L.sh + o, none⟩ (m + 1)).run P w = .ok () (w.freeze ⟨L.blk, L.sh + o, none⟩ (m + 1)) := rfl
            have hto : ((m + 1 : Nat) : Int).toNat = m + 1 := rfl
            have hdef : Builtin.unsafeString_ ts type #[.pointer (some ⟨L.blk, L.sh + o, none⟩), .int k ((m + 1 : Nat) : Int)] =
              (do
                let n ← asInt (.int k ((m + 1 : Nat) : Int))
                let some pt := ts[0]? | stuck "unsafe.String: no argument types"
                if n < 0 then runtimePanic (.error "unsafe.String: len out of range")
                if n > IntKind.i64.max then unsupported (.unsafePointer "String: a length above the largest int")
                if n = 0 then pure (.string .empty)
                else if ← variablesAt ⟨L.blk, L.sh + o, none⟩ (← elemOf pt) n.toNat then do
                  let s ← loadBytes ⟨L.blk, L.sh + o, none⟩ .empty n.toNat
                  freeze ⟨L.blk, L.sh + o, none⟩ n.toNat
                  pure (.string s)
                else unsupported (.unsafePointer "String: not so many bytes at ptr")) := rfl
            refine (congrArg (fun s => Sem.run P s w) hdef).trans ?_
            simp only [Sem.run_bind, hint, Result.andThen_ok, hts, n1, n2, n3, if_false, hel, hto, hvar, if_true, hlb, hfr, Sem.run_pure]
          · have : ∀ s : List Nat, (∀ n ∈ s, n < 256) → (s.map UInt8.ofNat).map (·.toNat) = s := by
              intro s hs
              induction s with
              | nil => rfl
              | cons x s ih =>
                have := hs x (by simp)
                simp only [List.map_cons, UInt8.toNat_ofNat', ih (fun n hn => hs n (by simp [hn]))]
                rw [Nat.mod_eq_of_lt this]
            have := this s b1
            simpa [bytesOf] using this
        · cases h6
      · cases h4
    · cases h2

theorem val2 {r : R (AV × St)} {nx : ANext} (h : (r.bind fun p => (R.ok (.val p.1 p.2) : R ANext)) = .ok nx) : ∃ v S', r = .ok (v, S') ∧ nx = .val v S' := by
  have _ := C
  obtain ⟨⟨v, S'⟩, h1, h2⟩ := R.bind_ok h
  cases h2; exact ⟨v, S', h1, rfl⟩

theorem aBuiltin_ok {b : Builtin} {ts : Array TypeId} {args : List AV} {cargs : Array Value} {nx : ANext} (h : aBuiltin E S b ts.toList args = .ok nx) (ha : VRs ρ args cargs.toList) (type : TypeId) (consts : Array Bool) :
    NextOK P ρ S w nx ((builtin b ts type consts cargs).run P w) := by
  have out : ∀ {s : Sem Value} {v : AV} {S' : St}, (∃ ρ' w' cv, s.run P w = .ok cv w' ∧ VR ρ' v cv ∧ Ext ρ S w.heap ρ' S' w'.heap ∧ SameOs w w') → NextOK P ρ S w (.val v S') ((do pure (Next.value (← s)) : Sem Next).run P w) := by
    rintro s v S' ⟨ρ', w', cv, r1, r2, r3, ro⟩
    simp only [Sem.run_bind, r1, Result.andThen_ok, Sem.run_pure]
    exact .val r3 r2 ro
  obtain ⟨tl⟩ := ts
  obtain ⟨al⟩ := cargs
  simp only at h ha
  unfold aBuiltin at h
  simp only at h
  split at h
  · obtain ⟨v, S', h1, rfl⟩ := val2 C h
    obtain ⟨_, _, rfl, h1', h2'⟩ := ha.two
    exact out (aAppend_ok C.env C.hr h1 rfl rfl h1' h2')
  · obtain ⟨v, h1, h2⟩ := R.bind_ok h
    cases h2
    obtain ⟨_, rfl, h1'⟩ := ha.one
    obtain ⟨c, r1, r2⟩ := aCap_ok C h1 h1' (ts := (_ :: _ : List TypeId).toArray) rfl type
    exact out ⟨ρ, w, c, r1, r2, Ext.refl C.hr, .refl w⟩
  · obtain ⟨n, h1, h2⟩ := R.bind_ok h
    cases h2
    obtain ⟨_, rfl, h1'⟩ := ha.one
    exact out ⟨ρ, w, _, lenV_ok C h1 h1' (ts := (_ :: _ : List TypeId).toArray) rfl type, .int, Ext.refl C.hr, .refl w⟩
  · obtain ⟨v, S', h1, rfl⟩ := val2 C h
    obtain ⟨_, _, rfl, h1', h2'⟩ := ha.two
    obtain ⟨c, w', r1, r2, r3, ro⟩ := aCopy_ok C h1 h1' h2' (ts := (_ :: _ : List TypeId).toArray) rfl type
    exact out ⟨ρ, w', c, r1, r2, r3, ro⟩
  · obtain ⟨S', h1, h2⟩ := R.bind_ok h
    cases h2
    obtain ⟨_, rfl, h1'⟩ := ha.one
    obtain ⟨w', r1, r2, ro⟩ := aClear_ok C h1 h1' (ts := (_ :: _ : List TypeId).toArray) rfl type
    exact out ⟨ρ, w', _, r1, .tup .nil, r2, ro⟩
  · obtain ⟨S', h1, h2⟩ := R.bind_ok h
    cases h2
    obtain ⟨_, _, rfl, h1', h2'⟩ := ha.two
    obtain ⟨w', r1, r2, ro⟩ := aDelete_ok C h1 h1' h2' (ts := (_ :: _ : List TypeId).toArray) rfl type
    exact out ⟨ρ, w', _, r1, .tup .nil, r2, ro⟩
  · obtain ⟨v, h1, h2⟩ := R.bind_ok h
    cases h2
    obtain ⟨_, _, rfl, h1', ha⟩ := ha.head
    obtain ⟨c, r1, r2⟩ := foldA_ok (P := P) (w := w) (g := Builtin.max2) max2A_ok h1 h1' ha
    exact out ⟨ρ, w, c, r1, r2, Ext.refl C.hr, .refl w⟩
  · obtain ⟨v, h1, h2⟩ := R.bind_ok h
    cases h2
    obtain ⟨_, _, rfl, h1', ha⟩ := ha.head
    obtain ⟨c, r1, r2⟩ := foldA_ok (P := P) (w := w) (g := Builtin.min2) min2A_ok h1 h1' ha
    exact out ⟨ρ, w, c, r1, r2, Ext.refl C.hr, .refl w⟩
  · obtain ⟨_, rfl, h1'⟩ := ha.one
    split at h
    · cases h
      have h1'' := h1'
      cases h1' with | iface q =>
      exact .pan (ρ' := ρ) (Ext.refl C.hr) h1''
    · cases h
  · cases h; exact .recover
  · obtain ⟨_, rfl, h1'⟩ := ha.one
    split at h
    · cases h; cases h1'
      exact out ⟨ρ, w, _, rfl, .pnil, Ext.refl C.hr, .refl w⟩
    · cases h
      cases h1' with | slice hL hc =>
      rename_i cap ad L
      obtain ⟨k, rfl⟩ : ∃ k, cap = k + 1 := ⟨cap - 1, by have := hc.1; omega⟩
      have := hc.2.1.resolve_left (by omega)
      subst this
      exact out ⟨ρ, w, .pointer (some ⟨L.blk, _, none⟩), rfl, .ptr hL, Ext.refl C.hr, .refl w⟩
    · cases h
  · obtain ⟨v, S', h1, rfl⟩ := val2 C h
    obtain ⟨_, _, rfl, h1', h2'⟩ := ha.two
    obtain ⟨c, w', r1, r2, r3, ro⟩ := aUnsafeString_ok C h1 h1' h2' (ts := (_ :: _ : List TypeId).toArray) rfl type
    exact out ⟨ρ, w', c, r1, r2, r3, ro⟩
  · cases h

end
end Go.Ev

/- A verified evaluator. Part S30: calls. -/
namespace Go.Ev

theorem idxA_ok (c : Nat) (b : ByteArray) (hc : c < 256) : ∀ (n i : Nat), i + n = b.size → idxA c ((bytesOf b).drop i) i =
    (match (List.range' i n).find? (fun i => b[i]! == UInt8.ofNat c) with | some i => (i : Int) | none => -1) := by
  intro n
  induction n with
  | zero =>
    intro i h
    rw [List.drop_eq_nil_of_le (by rw [bytesOf_length]; omega)]
    rfl
  | succ n ih =>
    intro i h
    have hlt : i < (bytesOf b).length := by rw [bytesOf_length]; omega
    rw [List.drop_eq_getElem_cons hlt]
    have hget : (bytesOf b)[i] = (b[i]!).toNat := by
      have hs : i < b.size := by omega
      rw [getElem!_pos b i hs]
      simp [bytesOf]
      rfl
    rw [List.range'_succ, List.find?_cons]
    unfold idxA
    have hiff : Nat.beq (bytesOf b)[i] c = (b[i]! == UInt8.ofNat c) := by
      rw [hget, Bool.eq_iff_iff, Nat.beq_eq, beq_iff_eq]
      constructor
      · intro h; rw [← h]; simp
      · intro h; rw [h, UInt8.toNat_ofNat', Nat.mod_eq_of_lt hc]
    rw [hiff]
    cases b[i]! == UInt8.ofNat c with
    | true => rfl
    | false => exact ih (i + 1) (by omega)

theorem idxA_range (c : Nat) (b : ByteArray) (hc : c < 256) : idxA c (bytesOf b) 0 =
    (match (List.range b.size).find? (fun i => b[i]! == UInt8.ofNat c) with | some i => (i : Int) | none => -1) := by
  have := idxA_ok c b hc b.size 0 (by omega)
  rw [List.drop_zero] at this
  rw [this, List.range_eq_range']

section
variable {P : Program} {E : Env} {ρ : Rho} {S : St} {w : World} {t : T AV} {nt : Nat} {a : Act} (C : Ctx P E ρ S w t nt a)
include C

theorem aCallFunc_ok {f : FuncId} {args : List AV} {cargs : Array Value} {nx : ANext} (h : aCallFunc E S f args = .ok nx) (ha : VRs ρ args cargs.toList) :
    NextOK P ρ S w nx ((callFunc f cargs).run P w) := by
  unfold aCallFunc at h
  obtain ⟨fn, h1, h2⟩ := R.bind_ok h
  have hf := C.env.funcs f fn (R.of_ok h1)
  obtain ⟨hp, hm⟩ := hf
  split at h2
  · rename_i e he
    rw [he] at hm
    obtain ⟨v, h3, h4⟩ := R.bind_ok h2
    cases h4
    obtain ⟨cl⟩ := cargs
    unfold aExt at h3
    split at h3
    · cases h3
      obtain ⟨c, hc, hv⟩ := VRs.one ha
      simp only at hc
      subst hc
      have : (callFunc f #[c]).run P w = .ok (.value c) w := hm c w
      rw [this]
      exact .val (Ext.refl C.hr) hv
    · rename_i s c
      split at h3
      · rename_i hc
        cases h3
        have hc' : c < 256 := by simpa [Nat.blt_eq] using hc
        obtain ⟨c1, c2, hcl, hv1, hv2⟩ := VRs.two ha
        simp only at hcl
        subst hcl
        cases hv1 with | str hs =>
        rename_i b
        subst hs
        cases hv2
        obtain ⟨w', r1, r2, ro⟩ := hm b (Int.ofNat c) w (Int.natCast_nonneg c) (by simp only [Int.ofNat_eq_natCast]; omega)
        have : (callFunc f #[.string b, .int .u8 (Int.ofNat c)]).run P w = _ := r1
        rw [this]
        refine .val (ρ' := ρ) ?_ ?_ ro
        · rw [r2]; exact Ext.refl C.hr
        · rw [idxA_range c b hc']
          exact .int
      · cases h3
    · cases h3
  · rename_i he
    rw [he] at hm
    cases h2
    obtain ⟨hb, hn⟩ := hm
    have : (callFunc f cargs).run P w = .ok (.enter f cargs) w := by
      unfold callFunc
      have hbn : fn.fn.body.isNone = false := by
        cases hq : fn.fn.body with
        | none => rw [hq] at hb; cases hb
        | some _ => rfl
      simp only [Sem.run_bind, run_program, Result.andThen_ok, hp, hn, hbn, Bool.false_eq_true, if_false, Sem.run_pure]
    rw [this]
    exact .enter ha

theorem aInvoke_ok {fn fn' : Fn} {captured args : List AV} {ccap cargs : Array Value} {nx : ANext} (h : aInvoke E S fn captured args = .ok nx) (hf : FnR ρ fn fn') (hc : VRs ρ captured ccap.toList) (ha : VRs ρ args cargs.toList) :
    NextOK P ρ S w nx ((invoke (.fn fn' ccap) cargs).run P w) := by
  unfold aInvoke at h
  split at h
  · cases hf with | same _ =>
    have : VRs ρ (args ++ captured) (cargs ++ ccap).toList := by rw [Array.toList_append]; exact ha.append hc
    exact aCallFunc_ok C h this
  · rename_i tt path f ptr
    cases hf with | same _ =>
    obtain ⟨i, h1, h2⟩ := R.bind_ok h
    have hu := (tiOf_ok C.env h1).run_und w
    split at h2
    · rename_i hd hp _
      obtain ⟨cl⟩ := cargs
      obtain ⟨c, cr, hcl, hv, hr⟩ := VRs.head ha
      simp only at hcl
      subst hcl
      obtain ⟨pl⟩ := path
      simp only at hp
      subst hp
      rw [hd] at hu
      have hrecv : (receiverVia tt c (#[] : Array FieldStep) true).run P w = .ok c w := by
        unfold receiverVia
        simp only [follow, Sem.run_bind, Sem.run_pure, Result.andThen_ok, receiverAt, hu]
        rfl
      have hget : ((c :: cr).toArray : Array Value)[0]? = some c := rfl
      have hrun : (invoke (.fn (.via tt #[] f true) ccap) (c :: cr).toArray).run P w = (callFunc f (c :: cr).toArray).run P w := by
        have hcat : #[c] ++ (c :: cr).toArray.extract 1 (c :: cr).toArray.size = (c :: cr).toArray := by
          apply Array.toList_inj.1; simp
        simp only [invoke, hget, Sem.run_bind, hrecv, Result.andThen_ok, hcat]
      rw [hrun]
      exact aCallFunc_ok C h2 ha
    · cases h2
  · rename_i l
    cases h
    cases hf with
    | yield hl => exact .round hl ha
    | same hne => exact absurd rfl (hne _)
  · cases h

theorem evCall_ok {c : Call} {nx : ANext} (h : evCall E t S c = .ok nx) (type : TypeId) :
    NextOK P ρ S w nx ((do let d ← resolve a.eval c type; invoke d.target d.args : Sem Next).run P w) := by
  unfold evCall at h
  obtain ⟨args, h1, h2⟩ := R.bind_ok h
  have ha := C.os h1
  rw [← Array.toList_map] at ha
  cases hc : c.callee with
  | builtin b =>
    rw [hc] at h2
    have hrun : (do let d ← resolve a.eval c type; invoke d.target d.args : Sem Next).run P w =
        (builtin b c.argTypes type (c.args.map fun | .const _ => true | _ => false) (c.args.map a.eval)).run P w := by
      simp only [resolve, hc, Sem.run_bind, Sem.run_pure, Result.andThen_ok, invoke]
      rfl
    rw [hrun]
    exact aBuiltin_ok C h2 ha type _
  | value f =>
    rw [hc] at h2
    obtain ⟨v, h3, h4⟩ := R.bind_ok h2
    have hv := C.o h3
    split at h4
    · rename_i fn first captured
      generalize hq : a.eval f = cf at hv
      cases hv with | func hf h5 h6 =>
      rename_i fn' a' c'
      have hrun : (do let d ← resolve a.eval c type; invoke d.target d.args : Sem Next).run P w = (invoke (.fn fn' c') (a' ++ c.args.map a.eval)).run P w := by
        simp only [resolve, hc, hq, Deferred.ofValue, Sem.run_bind, Sem.run_pure, Result.andThen_ok]
      rw [hrun]
      exact aInvoke_ok C h4 hf h6 (by rw [Array.toList_append]; exact h5.append ha)
    · cases h4
  | invoke r m => rw [hc] at h2; cases h2

theorem evDefer_ok {c : Call} {nx : ANext} (h : evDefer E t c = .ok nx) (type : TypeId) :
    NextOK P ρ S w nx ((do pure (Next.defer (← resolve a.eval c type)) : Sem Next).run P w) := by
  unfold evDefer at h
  obtain ⟨args, h1, h2⟩ := R.bind_ok h
  have ha := C.os h1
  rw [← Array.toList_map] at ha
  cases hc : c.callee with
  | builtin b => rw [hc] at h2; cases h2
  | value f =>
    rw [hc] at h2
    obtain ⟨v, h3, h4⟩ := R.bind_ok h2
    have hv := C.o h3
    split at h4
    · rename_i fn first captured
      cases h4
      generalize hq : a.eval f = cf at hv
      cases hv with | func hf h5 h6 =>
      rename_i fn' a' c'
      have hrun : (do pure (Next.defer (← resolve a.eval c type)) : Sem Next).run P w = .ok (.defer { target := .fn fn' c', args := a' ++ c.args.map a.eval }) w := by
        simp only [resolve, hc, hq, Deferred.ofValue, Sem.run_bind, Sem.run_pure, Result.andThen_ok]
      rw [hrun]
      exact .defer (.call hf h6 (by rw [Array.toList_append]; exact h5.append ha))
    · cases h4
  | invoke r m => rw [hc] at h2; cases h2

theorem opPanic_ok {x : Operand} {nx : ANext} (h : opPanic E t S x = .ok nx) : NextOK P ρ S w nx ((do pure (Next.value (← Instr.panic (a.eval x))) : Sem Next).run P w) := by
  unfold opPanic at h
  obtain ⟨v, h1, h2⟩ := R.bind_ok h
  have hx := C.o h1
  generalize a.eval x = cx at hx
  split at h2
  · cases h2
    have hx' := hx
    cases hx with | iface q =>
    exact .pan (ρ' := ρ) (Ext.refl C.hr) hx'
  · cases h2

/- ONE OPERATION. -/
theorem evOp_ok {o : Oper} {nx : ANext} (h : evOp E t S o.op = .ok nx) : NextOK P ρ S w nx ((execOp a.eval o).run P w) := by
  cases ho : o.op <;> rw [ho] at h <;> first | (cases h; done) | skip
  case nilCheck x => exact opNilCheck_ok C h ho
  all_goals unfold execOp; rw [ho]
  case move x => exact opMove_ok C h
  case assign x => exact opMove_ok C h
  case pick c x y => exact opPick_ok C h
  case alloc => exact opAlloc_ok C h
  case box => exact opBox_ok C h
  case build => exact opBuild_ok C h
  case buildSlice => exact opBuildSlice_ok C h
  case insert => exact opMapSet_ok C h
  case load => exact opLoad_ok C h
  case store => exact opStore_ok C h
  case binOp op tt x y yt =>
    have h' : opBin E t S op tt x y = .ok nx := h
    unfold opBin at h'
    obtain ⟨va, h1, h2⟩ := R.bind_ok h'
    obtain ⟨vb, h3, h4⟩ := R.bind_ok h2
    exact aBin_ok C h4 (C.o h1) (C.o h3)
  case unOp => exact opUn_ok C h
  case convert => exact opConvert_ok C h
  case makeInterface => exact opMakeInterface_ok C h
  case makeFunc => exact opMakeFunc_ok C h
  case makeMap => exact opMakeMap_ok C h
  case makeSlice => exact opMakeSlice_ok C h
  case slice => exact opSlice_ok C h
  case fieldAddr => exact opFieldAddr_ok C h
  case field => exact opField_ok C h
  case indexAddr => exact opIndexAddr_ok C h
  case index => exact opIndex_ok C h
  case lookup => exact opLookup_ok C h
  case mapUpdate => exact opMapSet_ok C h
  case mapEntry => exact opMapEntry_ok C h
  case entryStore tt m s x => exact opEntryStore_ok C h tt
  case range => exact opRange_ok C h
  case next => exact opNext_ok C h o.type
  case entry => exact opEntry_ok C h
  case typeAssert x xT tt ok => exact opTypeAssert_ok C h
  case extract => exact opExtract_ok C h
  case call c => exact evCall_ok C h o.type
  case defer c => exact evDefer_ok C h o.type
  case panic x => exact opPanic_ok C h

end
end Go.Ev

/- A verified evaluator. Part S31: frames, modes, callers, endings; the machine's steps. -/
namespace Go.Ev

inductive PansR (ρ : Rho) : List APan → List PanicEntry → Prop
  | nil : PansR ρ [] []
  | cons {p : APan} {e : PanicEntry} {ps : List APan} {es : List PanicEntry} (hv : VR ρ p.v e.v) (hr : p.recovered = e.recovered) (hg : e.goexit = false) (hs : PansR ρ ps es) : PansR ρ (p :: ps) (e :: es)

theorem PansR.mono {ρ ρ' : Rho} (h : ρ.le ρ') : ∀ {l : List APan} {c : List PanicEntry}, PansR ρ l c → PansR ρ' l c
  | _, _, .nil => .nil
  | _, _, .cons hv hr hg hs => .cons (hv.mono h) hr hg (hs.mono h)

theorem PansR.append {ρ : Rho} : ∀ {l : List APan} {c : List PanicEntry} {l' : List APan} {c' : List PanicEntry}, PansR ρ l c → PansR ρ l' c' → PansR ρ (l ++ l') (c ++ c')
  | _, _, _, _, .nil, h => h
  | _, _, _, _, .cons hv hr hg hs, h => .cons hv hr hg (hs.append h)

theorem PansR.noexit {ρ : Rho} : ∀ {l : List APan} {c : List PanicEntry}, PansR ρ l c → c.dropWhile (!·.goexit) = []
  | _, _, .nil => rfl
  | _, _, .cons hv hr hg hs => by rw [List.dropWhile_cons]; simp [hg, hs.noexit]

inductive ModeR (ρ : Rho) : AMode → FrameMode → Prop
  | run : ModeR ρ .run .run
  | returning : ModeR ρ .returning .returning
  | panicking {l : List APan} {c : List PanicEntry} (h : PansR ρ l c) : ModeR ρ (.panicking l) (.panicking c)

theorem ModeR.mono {ρ ρ' : Rho} (h : ρ.le ρ') {a : AMode} {b : FrameMode} (x : ModeR ρ a b) : ModeR ρ' a b := by
  cases x with
  | run => exact .run
  | returning => exact .returning
  | panicking e => exact .panicking (e.mono h)

theorem DefR.mono {ρ ρ' : Rho} (h : ρ.le ρ') {a : ADI} {b : Deferred} (x : DefR ρ a b) : DefR ρ' a b := by
  cases x with
  | call hf hc ha => exact .call (hf.mono h) (hc.mono h) (ha.mono h)
  | collected e => exact .collected (h.1 _ _ e)

inductive DefsR (ρ : Rho) : List ADI → List Deferred → Prop
  | nil : DefsR ρ [] []
  | cons {d : ADI} {c : Deferred} {ds : List ADI} {cs : List Deferred} (h : DefR ρ d c) (hs : DefsR ρ ds cs) : DefsR ρ (d :: ds) (c :: cs)

theorem DefsR.mono {ρ ρ' : Rho} (h : ρ.le ρ') : ∀ {l : List ADI} {c : List Deferred}, DefsR ρ l c → DefsR ρ' l c
  | _, _, .nil => .nil
  | _, _, .cons x xs => .cons (x.mono h) (xs.mono h)

/- The callers of a frame, so far as it can turn them. -/
inductive CsR (ρ : Rho) : CallKind → AMode → List Frame → Prop
  | normal {u : AMode} {cs : List Frame} : CsR ρ .normal u cs
  | deferred {u : AMode} {c : Frame} {cs : List Frame} (h : ModeR ρ u c.mode) : CsR ρ .deferred u (c :: cs)
  | early {u : AMode} {c : Frame} {cs : List Frame} : CsR ρ .early u (c :: cs)

theorem CsR.mono {ρ ρ' : Rho} (h : ρ.le ρ') {k : CallKind} {u : AMode} {cs : List Frame} (x : CsR ρ k u cs) : CsR ρ' k u cs := by
  cases x with
  | normal => exact .normal
  | deferred e => exact .deferred (e.mono h)
  | early => exact .early

inductive CsTo : CallKind → List Frame → List Frame → Prop
  | normal {cs : List Frame} : CsTo .normal cs cs
  | deferred {c : Frame} {cs : List Frame} {m : FrameMode} : CsTo .deferred (c :: cs) ({ c with mode := m } :: cs)
  | early {cs : List Frame} : CsTo .early cs cs

theorem CsR.refl {ρ : Rho} {k : CallKind} {u : AMode} {cs : List Frame} (x : CsR ρ k u cs) : CsTo k cs cs := by
  cases x with
  | normal => exact .normal
  | deferred e => rename_i c _; exact CsTo.deferred (c := c) (m := c.mode)
  | early => exact .early

theorem CsTo.trans {k : CallKind} {a b c : List Frame} (h : CsTo k a b) (h' : CsTo k b c) : CsTo k a c := by
  cases h with
  | normal => exact h'
  | deferred => cases h' with | deferred => exact CsTo.deferred
  | early => exact h'

/- A frame that leaves. -/
def Frame.un (b : Frame) (tmps : Array Value) (ds : List Deferred) (m : FrameMode) (todo : List Item) : Frame := { fn := b.fn, tmps, todo, defers := ds, mode := m, kind := b.kind }

def EndOK (P : Program) (ρ : Rho) (b : Frame) (fn : Func) (e : AEnd) (fr : Frame) (w : World) : Prop :=
  fr.fn = b.fn ∧ fr.kind = b.kind ∧ fr.defers = [] ∧
  match e with
  | .ret v => fr.mode = .returning ∧ ∃ c, (results fn fr.tmps).run P w = .ok c w ∧ VR ρ v c
  | .pan ch => ∃ c, fr.mode = .panicking c ∧ PansR ρ ch c

/- A frame's kind, as the evaluator is told: a round of a range over a function goes by the name of an early frame. -/
def ekind (b : Frame) : CallKind := match b.roundOf with | none => b.kind | some _ => .early

theorem ekind_none {b : Frame} (h : b.roundOf = none) : ekind b = b.kind := by unfold ekind; rw [h]

theorem ekind_some {b : Frame} {l : Nat} (h : b.roundOf = some l) : ekind b = .early := by unfold ekind; rw [h]

/- The callers of a frame; and where a round's loop lies (its number stands in the frame as the number of the base's temporaries). -/
def CsB (ρ : Rho) (b : Frame) (u : AMode) (cs : List Frame) : Prop := CsR ρ (ekind b) u cs ∧ ∀ blk, b.roundOf = some blk → ∃ L, ρ.loc b.tmps.size = some L ∧ L.blk = blk

theorem CsB.mono {ρ ρ' : Rho} (h : ρ.le ρ') {b : Frame} {u : AMode} {cs : List Frame} (x : CsB ρ b u cs) : CsB ρ' b u cs :=
  ⟨x.1.mono h, fun blk e => let ⟨L, h1, h2⟩ := x.2 blk e; ⟨L, h.1 _ _ h1, h2⟩⟩

theorem CsB.refl {ρ : Rho} {b : Frame} {u : AMode} {cs : List Frame} (x : CsB ρ b u cs) : CsTo (ekind b) cs cs := x.1.refl

theorem CsB.of_none {ρ : Rho} {b : Frame} {u : AMode} {cs : List Frame} (hb : b.roundOf = none) (x : CsR ρ b.kind u cs) : CsB ρ b u cs :=
  ⟨by rw [ekind_none hb]; exact x, fun blk e => by rw [hb] at e; cases e⟩

/- How a round ends: the machine has gone back to the frame that called it. -/
def RoundEnd (P : Program) (ρ : Rho) (c : Frame) (rest : List Frame) (e : AEnd) (w : World) (m : Machine) : Prop :=
  match e with
  | .ret v => ∃ x, VR ρ v x ∧ Steps P m (lone (c.finish x) rest w)
  | .pan ch => ∃ x, PansR ρ ch x ∧ Steps P m (lone (c.raise x) rest w)

def Reach (P : Program) (b : Frame) (fn : Func) (cs : List Frame) (e : AEnd) (u : AMode) (ρ : Rho) (w : World) (m : Machine) : Prop :=
  match b.roundOf with
  | none => ∃ fr' cs', Steps P m (lone fr' cs' w) ∧ EndOK P ρ b fn e fr' w ∧ CsTo b.kind cs cs' ∧ CsR ρ b.kind u cs'
  | some _ => ∃ c rest, cs = c :: rest ∧ RoundEnd P ρ c rest e w m

theorem Reach.of_steps {P : Program} {b : Frame} {fn : Func} {cs : List Frame} {e : AEnd} {u : AMode} {ρ : Rho} {w : World} {m m1 : Machine} (h : Steps P m m1) (h' : Reach P b fn cs e u ρ w m1) : Reach P b fn cs e u ρ w m := by
  unfold Reach at h' ⊢
  split at h'
  · obtain ⟨fr', cs', a, r⟩ := h'
    exact ⟨fr', cs', h.trans a, r⟩
  · obtain ⟨c, rest, a, r⟩ := h'
    refine ⟨c, rest, a, ?_⟩
    cases e with
    | ret v => obtain ⟨x, r1, r2⟩ := r; exact ⟨x, r1, h.trans r2⟩
    | pan ch => obtain ⟨x, r1, r2⟩ := r; exact ⟨x, r1, h.trans r2⟩

theorem Reach.of_cs {P : Program} {b : Frame} {fn : Func} {cs cs1 : List Frame} {e : AEnd} {u : AMode} {ρ : Rho} {w : World} {m : Machine} (hc : CsTo (ekind b) cs cs1) (h' : Reach P b fn cs1 e u ρ w m) : Reach P b fn cs e u ρ w m := by
  unfold Reach at h' ⊢
  split at h'
  · rename_i hb
    rw [ekind_none hb] at hc
    obtain ⟨fr', cs', a, r, c, q⟩ := h'
    exact ⟨fr', cs', a, r, hc.trans c, q⟩
  · rename_i hb
    rw [ekind_some hb] at hc
    cases hc
    exact h'

/- A way of a frame to its end. -/
def Ends (P : Program) (b : Frame) (fn : Func) (ρ : Rho) (S : St) (w : World) (cs : List Frame) (o : Out) (m : Machine) : Prop :=
  ∃ ρ' w', Ext ρ S w.heap ρ' o.S w'.heap ∧ SameOs w w' ∧ Reach P b fn cs o.e o.u ρ' w' m

theorem Ends.of_steps {P : Program} {b : Frame} {fn : Func} {ρ : Rho} {S : St} {w : World} {cs : List Frame} {o : Out} {m m1 : Machine} (h : Steps P m m1) (h' : Ends P b fn ρ S w cs o m1) : Ends P b fn ρ S w cs o m := by
  obtain ⟨ρ', w', a, r, q⟩ := h'
  exact ⟨ρ', w', a, r, q.of_steps h⟩

theorem Ends.of_ext {P : Program} {b : Frame} {fn : Func} {ρ ρ1 : Rho} {S S1 : St} {w w1 : World} {cs cs1 : List Frame} {o : Out} {m : Machine} (h : Ext ρ S w.heap ρ1 S1 w1.heap) (ho : SameOs w w1) (hc : CsTo (ekind b) cs cs1)
    (h' : Ends P b fn ρ1 S1 w1 cs1 o m) : Ends P b fn ρ S w cs o m := by
  obtain ⟨ρ', w', e, s, q⟩ := h'
  exact ⟨ρ', w', h.trans e, ho.trans s, q.of_cs hc⟩

/- A frame that is no round's. -/
theorem Ends.plain {P : Program} {b : Frame} {fn : Func} {ρ : Rho} {S : St} {w : World} {cs : List Frame} {o : Out} {m : Machine} (hb : b.roundOf = none) (h : Ends P b fn ρ S w cs o m) :
    ∃ ρ' w' fr' cs', Steps P m (lone fr' cs' w') ∧ Ext ρ S w.heap ρ' o.S w'.heap ∧ EndOK P ρ' b fn o.e fr' w' ∧ CsTo b.kind cs cs' ∧ CsR ρ' b.kind o.u cs' ∧ SameOs w w' := by
  obtain ⟨ρ', w', e, s, q⟩ := h
  unfold Reach at q
  rw [hb] at q
  obtain ⟨fr', cs', q1, q2, q3, q4⟩ := q
  exact ⟨ρ', w', fr', cs', q1, e, q2, q3, q4, s⟩

theorem Ends.mk_plain {P : Program} {b : Frame} {fn : Func} {ρ : Rho} {S : St} {w : World} {cs : List Frame} {o : Out} {m : Machine} (hb : b.roundOf = none)
    (h : ∃ ρ' w' fr' cs', Steps P m (lone fr' cs' w') ∧ Ext ρ S w.heap ρ' o.S w'.heap ∧ EndOK P ρ' b fn o.e fr' w' ∧ CsTo b.kind cs cs' ∧ CsR ρ' b.kind o.u cs' ∧ SameOs w w') : Ends P b fn ρ S w cs o m := by
  obtain ⟨ρ', w', fr', cs', q1, e, q2, q3, q4, s⟩ := h
  refine ⟨ρ', w', e, s, ?_⟩
  unfold Reach
  rw [hb]
  exact ⟨fr', cs', q1, q2, q3, q4⟩

section
variable {P : Program} {E : Env}

theorem Ctx.step {ρ ρ' : Rho} {S S' : St} {w w' : World} {t t' : T AV} {nt : Nat} {a a' : Act} (C : Ctx P E ρ S w t nt a) (e : Ext ρ S w.heap ρ' S' w'.heap) (ht : TmR ρ' nt t' a'.tmps) : Ctx P E ρ' S' w' t' nt a' :=
  ⟨C.env, C.glob.mono e.le, ht, e.hr, by rw [e.le.2]; exact C.facts⟩

theorem TmR.put {ρ : Rho} {nt : Nat} {t : T AV} {a : Array Value} (h : TmR ρ nt t a) {d : Nat} {v : AV} {c : Value} (hv : VR ρ v c) (hd : d < nt) : TmR ρ nt (t.set d v) (a.setIfInBounds d c) := by
  refine ⟨by simp [h.size], fun i => ?_⟩
  by_cases e : i = d
  · subst e
    rw [T.get_set]
    have hs := h.size
    have : (a.setIfInBounds i c).getD i undef = c := by
      rw [Array.getD_eq_getD_getElem?, Array.getElem?_setIfInBounds, if_pos rfl, if_pos (by omega)]; rfl
    rw [this]; exact hv
  · rw [T.get_set_ne _ _ _ _ e]
    have : (a.setIfInBounds d c).getD i undef = a.getD i undef := by
      rw [Array.getD_eq_getD_getElem?, Array.getElem?_setIfInBounds, if_neg (fun x => e x.symm), ← Array.getD_eq_getD_getElem?]
    rw [this]; exact h.vals i

theorem wr_eq (dst : Dst) (t : T AV) (v : AV) (k : T AV → Res) : wr dst t v k = k (match dst with | .none => t | .at p => setL p (some v) t (fun t => t)) := by
  cases dst with
  | none => rfl
  | «at» p => exact setL_k p _ _ _

/- Where a value goes. -/
theorem wr_ok {ρ : Rho} {nt : Nat} {t : T AV} {a : Act} (h : TmR ρ nt t a.tmps) {dst : Option Tmp} {v : AV} {c : Value} (hv : VR ρ v c) :
    ∃ t', (∀ k, wr (dstOf nt dst) t v k = k t') ∧ TmR ρ nt t' (a.put dst c).tmps := by
  cases dst with
  | none => exact ⟨t, fun k => rfl, h⟩
  | some d =>
    cases hb : Nat.blt d nt with
    | false =>
      have hdst : dstOf nt (some d) = .none := by
        show (match Nat.blt d nt with | true => Dst.at (path d) | false => .none) = .none
        rw [hb]
      refine ⟨t, fun k => by rw [hdst]; rfl, ?_⟩
      have hge : nt ≤ d := by
        rcases Nat.lt_or_ge d nt with q | q
        · have : Nat.blt d nt = true := by rw [Nat.blt_eq]; exact q
          rw [this] at hb; cases hb
        · exact q
      have : (a.put (some d) c).tmps = a.tmps := by
        show a.tmps.setIfInBounds d c = a.tmps
        have := h.size
        exact Array.setIfInBounds_eq_of_size_le (by omega)
      rw [this]; exact h
    | true =>
      have hd : d < nt := by rw [Nat.blt_eq] at hb; exact hb
      have hdst : dstOf nt (some d) = .at (path d) := by
        show (match Nat.blt d nt with | true => Dst.at (path d) | false => .none) = .at (path d)
        rw [hb]
      exact ⟨t.set d v, fun k => by rw [hdst]; exact wr_eq _ _ _ _, h.put hv hd⟩

theorem put_defers {a : Act} {dst : Option Tmp} {c : Value} : (a.put dst c).defers = a.defers := by cases dst <;> rfl

theorem rd_ok {ρ : Rho} {nt : Nat} {t : T AV} {a : Act} {x : Operand} {k : AV → Res} {outs : List Out} (hg : GlobalsAt ρ E.nglob) (ht : TmR ρ nt t a.tmps) (h : rd (srcOf E x) t k = .ok outs) :
    ∃ v, VR ρ v (a.eval x) ∧ evO E t x = .ok v ∧ k v = .ok outs := by
  have key : ∀ v, evO E t x = .ok v → k v = .ok outs → ∃ v, VR ρ v (a.eval x) ∧ evO E t x = .ok v ∧ k v = .ok outs := fun v h1 h2 => ⟨v, evO_ok hg ht h1, h1, h2⟩
  cases x with
  | tmp i =>
    have h' : (Option.rec (motive := fun _ => Res) (k undefA) (fun v => k v) (t.get i) : Res) = .ok outs := h
    cases hq : t.get i with
    | none => rw [hq] at h'; exact key _ (by simp [evO, hq]) h'
    | some v => rw [hq] at h'; exact key _ (by simp [evO, hq]) h'
  | const v =>
    unfold srcOf at h
    simp only at h
    cases hq : toA v with
    | ok a' => rw [hq] at h; exact key a' hq h
    | bad q => rw [hq] at h; cases h
  | global g =>
    unfold srcOf at h
    simp only at h
    cases hq : globA E g with
    | ok a' => rw [hq] at h; exact key a' hq h
    | bad q => rw [hq] at h; cases h
  | func f => exact key _ rfl h

/- Guards. -/
theorem yielded_ok {ρ : Rho} {nt : Nat} {t : T AV} {a : Array Value} (h : TmR ρ nt t a) (ops : Array Oper) (j : Nat) : yieldedA ops.toList t j = yielded ops a j := by
  unfold yieldedA yielded
  rw [Array.getElem?_toList]
  cases ops[j]? with
  | none => rfl
  | some o =>
    simp only [Option.bind_some]
    cases hd : o.dst with
    | none => rfl
    | some d =>
      simp only [Option.bind_some]
      have hv := h.vals d
      rw [Array.getD_eq_getD_getElem?] at hv
      cases ha : a[d]? with
      | none =>
        rw [ha] at hv
        cases ht : t.get d with
        | none => rfl
        | some v => rw [ht] at hv; cases v <;> first | rfl | cases hv
      | some c =>
        rw [ha] at hv
        cases ht : t.get d with
        | none => rw [ht] at hv; cases c <;> first | rfl | cases hv
        | some v =>
          rw [ht] at hv
          simp only [Option.getD_some] at hv
          cases hv <;> rfl

theorem wanted_ok {ρ : Rho} {nt : Nat} {t : T AV} {a : Array Value} (h : TmR ρ nt t a) (ops : Array Oper) (o : Oper) : wantedA ops.toList t o.guard = Region.wanted o (yielded ops a) := by
  unfold wantedA Region.wanted
  cases o.guard with
  | none => rfl
  | some g =>
    obtain ⟨j, want⟩ := g
    show guardA ops.toList t (j, want) = _
    unfold guardA
    simp only [yielded_ok h]
    cases yielded ops a j with
    | none => rfl
    | some b => cases b <;> cases want <;> rfl

/- The machine's steps at an operation. -/
variable {b : Frame} {a : Act} {k : List Item} {cs : List Frame} {w w' : World} {ops : Array Oper} {i : Nat} {rest : List Nat} {o : Oper}

theorem step_value (ho : ops[i]? = some o) (hw : Region.wanted o (yielded ops a.tmps) = true) (he : o.semAt b.roundOf a.eval = execOp a.eval o) {v : Value} (hr : (execOp a.eval o).run P w = .ok (.value v) w') :
    step P (lone (b.atR a (.inRegion ops (i :: rest) :: k)) cs w) = .next (lone (b.atR (a.put o.dst v) (.inRegion ops rest :: k)) cs w') := by
  have hg := stepGR_op (P := P) (b := b) (k := k) (cs := cs) (w := w) (rest := rest) ho hw
  rw [he] at hg
  have hfin : (b.atR a (.inRegion ops (i :: rest) :: k)).finish v = b.atR (a.put o.dst v) (.inRegion ops rest :: k) := by rw [Frame.finish_atR, ho]; rfl
  exact step_lone_go (by rw [hg, ← hfin]; simp [stepG.apply, hr])

theorem step_skipped (ho : ops[i]? = some o) (hw : Region.wanted o (yielded ops a.tmps) = true) (he : o.semAt b.roundOf a.eval = execOp a.eval o) (hr : (execOp a.eval o).run P w = .ok .skip w') :
    step P (lone (b.atR a (.inRegion ops (i :: rest) :: k)) cs w) = .next (lone (b.atR (a.put o.dst undef) (.inRegion ops rest :: k)) cs w') := by
  have hg := stepGR_op (P := P) (b := b) (k := k) (cs := cs) (w := w) (rest := rest) ho hw
  rw [he] at hg
  have hfin : (b.atR a (.inRegion ops (i :: rest) :: k)).finish undef = b.atR (a.put o.dst undef) (.inRegion ops rest :: k) := by rw [Frame.finish_atR, ho]; rfl
  exact step_lone_go (by rw [hg, ← hfin]; simp [stepG.apply, hr])

theorem step_deferred (ho : ops[i]? = some o) (hw : Region.wanted o (yielded ops a.tmps) = true) (he : o.semAt b.roundOf a.eval = execOp a.eval o) {d : Deferred} (hr : (execOp a.eval o).run P w = .ok (.defer d) w') :
    step P (lone (b.atR a (.inRegion ops (i :: rest) :: k)) cs w) = .next (lone (b.atR ({ a with defers := d :: a.defers }.put o.dst undef) (.inRegion ops rest :: k)) cs w') := by
  have hg := stepGR_op (P := P) (b := b) (k := k) (cs := cs) (w := w) (rest := rest) ho hw
  rw [he] at hg
  have : ({ b.atR a (.inRegion ops (i :: rest) :: k) with defers := d :: a.defers } : Frame).finish undef =
      b.atR ({ a with defers := d :: a.defers }.put o.dst undef) (.inRegion ops rest :: k) := by
    have := Frame.finish_atR b { a with defers := d :: a.defers } ops i rest k undef
    rw [ho] at this; exact this
  refine step_lone_go ?_
  rw [hg]; simp only [stepG.apply, Sem.runT_eq, hr, GStep.bare_after]
  exact congrArg (fun fr => GStep.go { frame := fr, callers := cs, status := .running, dying := none } w') this

theorem step_enter (ho : ops[i]? = some o) (hw : Region.wanted o (yielded ops a.tmps) = true) (he : o.semAt b.roundOf a.eval = execOp a.eval o) {f : FuncId} {args : Array Value} (hr : (execOp a.eval o).run P w = .ok (.enter f args) w') :
    step P (lone (b.atR a (.inRegion ops (i :: rest) :: k)) cs w) = .next (lone (Frame.enter P f args .normal) (b.atR a (.inRegion ops (i :: rest) :: k) :: cs) w') := by
  have hg := stepGR_op (P := P) (b := b) (k := k) (cs := cs) (w := w) (rest := rest) ho hw
  rw [he] at hg
  exact step_lone_go (by rw [hg]; simp [stepG.apply, hr, Frame.atR])

theorem step_round (ho : ops[i]? = some o) (hw : Region.wanted o (yielded ops a.tmps) = true) (he : o.semAt b.roundOf a.eval = execOp a.eval o) {l : Nat} {f : FuncId} {tmps : Array Value} {as bd : Code} (hr : (execOp a.eval o).run P w = .ok (.round l f tmps as bd) w') :
    step P (lone (b.atR a (.inRegion ops (i :: rest) :: k)) cs w) = .next (lone (Frame.round l f tmps as bd .normal) (b.atR a (.inRegion ops (i :: rest) :: k) :: cs) w') := by
  have hg := stepGR_op (P := P) (b := b) (k := k) (cs := cs) (w := w) (rest := rest) ho hw
  rw [he] at hg
  exact step_lone_go (by rw [hg]; simp [stepG.apply, hr, Frame.atR])

/- Operations that mean in a round what they mean elsewhere. -/
def PlainOps (b : Frame) (ops : Array Oper) : Prop := ∀ o ∈ ops.toList, ∀ ρ, o.semAt b.roundOf ρ = execOp ρ o

theorem PlainOps.at {b : Frame} {ops : Array Oper} (h : PlainOps b ops) {i : Nat} {o : Oper} (ho : ops[i]? = some o) (ρ : Operand → Value) : o.semAt b.roundOf ρ = execOp ρ o :=
  h o (List.mem_of_getElem? (by rw [Array.getElem?_toList]; exact ho)) ρ

theorem PlainOps.of_check {b : Frame} {ops : Array Oper} (h : (isEarly (ekind b) && ops.toList.any isDefer) = false) : PlainOps b ops := by
  intro o ho ρ
  cases hb : b.roundOf with
  | none => rfl
  | some l =>
    rw [ekind_some hb] at h
    have h' : ops.toList.any isDefer = false := h
    rw [List.any_eq_false] at h'
    refine Oper.semAt_eq _ _ _ fun c hc => h' o ho ?_
    unfold isDefer; rw [hc]

theorem step_panics (ho : ops[i]? = some o) (hw : Region.wanted o (yielded ops a.tmps) = true) (he : o.semAt b.roundOf a.eval = execOp a.eval o) {v : Value} (hr : (execOp a.eval o).run P w = .halt (.panic v) w') :
    step P (lone (b.atR a (.inRegion ops (i :: rest) :: k)) cs w) = .next (lone { b.atR a (.inRegion ops (i :: rest) :: k) with mode := .panicking [{ v, recovered := false }] } cs w') := by
  have hg := stepGR_op (P := P) (b := b) (k := k) (cs := cs) (w := w) (rest := rest) ho hw
  rw [he] at hg
  exact step_lone_go (by rw [hg, ← Frame.raise_atR]; simp [stepG.apply, hr])

theorem step_recover (ho : ops[i]? = some o) (hw : Region.wanted o (yielded ops a.tmps) = true) (he : o.semAt b.roundOf a.eval = execOp a.eval o) (hb : b.roundOf = none) (hr : (execOp a.eval o).run P w = .ok .recover w') :
    step P (lone (b.atR a (.inRegion ops (i :: rest) :: k)) cs w) =
      .next (match tryRecover (b.atR a (.inRegion ops (i :: rest) :: k)) cs with
        | some (v, cs') => lone (b.atR (a.put o.dst v) (.inRegion ops rest :: k)) cs' w'
        | none => lone (b.atR (a.put o.dst .nilIface) (.inRegion ops rest :: k)) cs w') := by
  have hg := stepGR_op (P := P) (b := b) (k := k) (cs := cs) (w := w) (rest := rest) ho hw
  rw [he] at hg
  have hfin : ∀ v, (b.atR a (.inRegion ops (i :: rest) :: k)).finish v = b.atR (a.put o.dst v) (.inRegion ops rest :: k) := by intro v; rw [Frame.finish_atR, ho]; rfl
  have hro : (b.atR a (.inRegion ops (i :: rest) :: k)).roundOf = none := hb
  cases ht : tryRecover (b.atR a (.inRegion ops (i :: rest) :: k)) cs with
  | none => exact step_lone_go (by rw [hg, ← hfin]; simp [stepG.apply, hr, hro, ht])
  | some p => obtain ⟨v, cs'⟩ := p; exact step_lone_go (by rw [hg, ← hfin]; simp [stepG.apply, hr, hro, ht])

end
end Go.Ev

/- A verified evaluator. Part S32: what it means that a continuation is sound; operations as boxes. -/
namespace Go.Ev

structure NestOK (P : Program) (E : Env) (N : Nest) : Prop where
  call : ∀ (f : FuncId) (args : List AV) (kind : CallKind) (u : AMode) (S : St) (o : Out) (ρ : Rho) (w : World) (cargs : Array Value) (cs : List Frame), N.call f args kind u S = .ok o → EnvOK P E → GlobalsAt ρ E.nglob → HR ρ S w.heap → FactsOK E ρ.sig →
    VRs ρ args cargs.toList → CsR ρ kind u cs → ∃ fn, P.funcs[f]? = some fn ∧ Ends P { (default : Frame) with fn := f, kind := kind } fn ρ S w cs o (lone (Frame.enter P f cargs kind) cs w)
  round : ∀ (l : Nat) (args : List AV) (S : St) (o : Out) (ρ : Rho) (w : World) (cargs : Array Value) (L : Loc) (c : Frame) (cs : List Frame), N.round l args S = .ok o → EnvOK P E → GlobalsAt ρ E.nglob → HR ρ S w.heap → FactsOK E ρ.sig →
    VRs ρ args cargs.toList → ρ.loc l = some L → ∃ fid tmps as bd fn, (Instr.yield L.blk cargs).run P w = .ok (.round L.blk fid tmps as bd) w ∧
      Ends P { (default : Frame) with fn := fid, kind := .normal, roundOf := some L.blk, tmps := Array.replicate l undef } fn ρ S w (c :: cs) o (lone (Frame.round L.blk fid tmps as bd .normal) (c :: cs) w)

section
variable (P : Program) (E : Env) (b : Frame) (fn : Func) (nt : Nat)

def KOK (k : K) (todo : List Item) : Prop :=
  ∀ (ρ : Rho) (S : St) (w : World) (t : T AV) (a : Act) (ds : List ADI) (u : AMode) (cs : List Frame) (outs : List Out), Ctx P E ρ S w t nt a → DefsR ρ ds a.defers → CsB ρ b u cs → k t ds u S = .ok outs →
    ∃ o ∈ outs, Ends P b fn ρ S w cs o (lone (b.atR a todo) cs w)

def RetOK (k : K) : Prop :=
  ∀ (ρ : Rho) (S : St) (w : World) (t : T AV) (a : Act) (ds : List ADI) (u : AMode) (cs : List Frame) (outs : List Out) (todo : List Item), Ctx P E ρ S w t nt a → DefsR ρ ds a.defers → CsB ρ b u cs → k t ds u S = .ok outs →
    ∃ o ∈ outs, Ends P b fn ρ S w cs o (lone { b.atR a todo with mode := .returning } cs w)

def PanOK (pk : List APan → K) : Prop :=
  ∀ (ch : List APan) (c : List PanicEntry) (ρ : Rho) (S : St) (w : World) (t : T AV) (a : Act) (ds : List ADI) (u : AMode) (cs : List Frame) (outs : List Out) (todo : List Item), PansR ρ ch c → Ctx P E ρ S w t nt a → DefsR ρ ds a.defers → CsB ρ b u cs →
    pk ch t ds u S = .ok outs → ∃ o ∈ outs, Ends P b fn ρ S w cs o (lone { b.atR a todo with mode := .panicking c } cs w)

/- A box that stands for the operation number i of a region. -/
def ODOK (d : OD) (ops : Array Oper) (i : Nat) (o : Oper) : Prop :=
  ∀ (N : Nest) (pk : List APan → K) (k : K) (rest : List Nat) (items : List Item), NestOK P E N → PanOK P E b fn nt pk → KOK P E b fn nt k (.inRegion ops rest :: items) →
    ∀ (ρ : Rho) (S : St) (w : World) (t : T AV) (a : Act) (ds : List ADI) (u : AMode) (cs : List Frame) (outs : List Out), Ctx P E ρ S w t nt a → DefsR ρ ds a.defers → CsB ρ b u cs →
      ops[i]? = some o → Region.wanted o (yielded ops a.tmps) = true → o.semAt b.roundOf a.eval = execOp a.eval o → runOD d N pk k t ds u S = .ok outs → ∃ o ∈ outs, Ends P b fn ρ S w cs o (lone (b.atR a (.inRegion ops (i :: rest) :: items)) cs w)
end

theorem flatR_mem {α β : Type} {f : α → R (List β)} : ∀ {l : List α} {r : List β} {x : α}, flatR f l = .ok r → x ∈ l → ∃ s, f x = .ok s ∧ ∀ y ∈ s, y ∈ r := by
  intro l
  induction l with
  | nil => intro r x _ h; cases h
  | cons a l ih =>
    intro r x h hx
    obtain ⟨s, h1, h2⟩ := R.bind_ok h
    obtain ⟨r', h3, h4⟩ := R.bind_ok h2
    cases h4
    rcases List.mem_cons.1 hx with e | e
    · subst e; exact ⟨s, h1, fun y hy => List.mem_append_left _ hy⟩
    · obtain ⟨s', q1, q2⟩ := ih h3 e
      exact ⟨s', q1, fun y hy => List.mem_append_right _ (q2 y hy)⟩

section
variable {P : Program} {E : Env} {b : Frame} {fn : Func} {nt : Nat}

/- Going on behind a value. -/
theorem KOK.goOn {k : K} {todo : List Item} (hk : KOK P E b fn nt k todo) {ρ ρ1 : Rho} {S S1 : St} {w w1 : World} {t : T AV} {a : Act} {ds : List ADI} {u : AMode} {cs cs1 : List Frame} {outs : List Out}
    (C : Ctx P E ρ S w t nt a) (hd : DefsR ρ1 ds a.defers) (he : Ext ρ S w.heap ρ1 S1 w1.heap) (hso : SameOs w w1) (hto : CsTo (ekind b) cs cs1) (hcs : CsB ρ1 b u cs1) {dst : Option Tmp} {v : AV} {c : Value} (hv : VR ρ1 v c)
    (h : wr (dstOf nt dst) t v (fun t => k t ds u S1) = .ok outs) {m : Machine} (hm : Steps P m (lone (b.atR (a.put dst c) todo) cs1 w1)) : ∃ o ∈ outs, Ends P b fn ρ S w cs o m := by
  obtain ⟨t', h1, h2⟩ := wr_ok (C.tm.mono he.le) (dst := dst) hv
  rw [h1] at h
  obtain ⟨o, ho, e⟩ := hk ρ1 S1 w1 t' (a.put dst c) ds u cs1 outs (C.step he h2) (by rw [put_defers]; exact hd) hcs h
  exact ⟨o, ho, (e.of_steps hm).of_ext he hso hto⟩

theorem tryRecover_ok {ρ : Rho} {u : AMode} {cs : List Frame} {a : Act} {todo : List Item} (h : CsR ρ .deferred u cs) (hb : b.kind = .deferred) :
    match tryRecover (b.atR a todo) cs with
    | some (v, cs') => CsTo .deferred cs cs' ∧ VR ρ (recoverA u).1 v ∧ CsR ρ .deferred (recoverA u).2 cs'
    | none => recoverA u = (.nilIface, u) := by
  cases h with
  | deferred hm =>
    rename_i c cs
    have hk : (b.atR a todo).kind = .deferred := hb
    unfold tryRecover
    rw [hk]
    simp only
    generalize hcm : c.mode = m at hm
    cases hm with
    | run => rfl
    | returning => rfl
    | panicking hp =>
      cases hp with
      | nil => rfl
      | cons hv hr hg hs =>
        rename_i p e ps es
        obtain ⟨pv, pr⟩ := p
        obtain ⟨ev, er, eg⟩ := e
        simp only at hv hr hg
        subst hr; subst hg
        cases pr with
        | true => rfl
        | false => exact ⟨CsTo.deferred, hv, .deferred (.panicking (.cons hv rfl rfl hs))⟩

variable {N : Nest} {pk : List APan → K} {k : K} {ops : Array Oper} {i : Nat} {rest : List Nat} {items : List Item} {o : Oper}
  {ρ : Rho} {S : St} {w : World} {t : T AV} {a : Act} {ds : List ADI} {u : AMode} {cs : List Frame} {outs : List Out}
  (hN : NestOK P E N) (hp : PanOK P E b fn nt pk) (hk : KOK P E b fn nt k (.inRegion ops rest :: items)) (C : Ctx P E ρ S w t nt a) (hd : DefsR ρ ds a.defers) (hcs : CsB ρ b u cs)
  (ho : ops[i]? = some o) (hw : Region.wanted o (yielded ops a.tmps) = true) (hea : o.semAt b.roundOf a.eval = execOp a.eval o)
include hN hp hk C hd hcs ho hw hea

theorem afterCall_ok {f : FuncId} {args : List AV} {cargs : Array Value} (hargs : VRs ρ args cargs.toList) (hr : (execOp a.eval o).run P w = .ok (.enter f cargs) w)
    (h : afterCall pk k (dstOf nt o.dst) t ds u (N.call f args .normal .run S) = .ok outs) : ∃ x ∈ outs, Ends P b fn ρ S w cs x (lone (b.atR a (.inRegion ops (i :: rest) :: items)) cs w) := by
  cases hc : N.call f args .normal .run S with
  | bad q => rw [hc] at h; cases h
  | ok out =>
    rw [hc] at h
    obtain ⟨e, u', S1⟩ := out
    obtain ⟨fn2, hf2, hE2⟩ := hN.call f args .normal .run S _ ρ w cargs (b.atR a (.inRegion ops (i :: rest) :: items) :: cs) hc C.env C.glob C.hr C.facts hargs .normal
    obtain ⟨ρ1, w1, fr, cs1, hs, he, hend, hto, _, hso⟩ := hE2.plain rfl
    cases hto
    have s1 := Steps.head (step_enter (k := items) (cs := cs) (rest := rest) ho hw hea hr) hs
    obtain ⟨e1, e2, e3, e4⟩ := hend
    have h' : afterEnd pk k (dstOf nt o.dst) t ds u e S1 = .ok outs := h
    cases e with
    | ret v =>
      obtain ⟨m1, c, m2, m3⟩ := e4
      have hleave : fr.leaving P w1 (.returned c) := ⟨m1, e3, e2, fn2, by rw [e1]; exact hf2, m2⟩
      have s2 := s1.trans (.one (step_leave_returned hleave))
      have hfin : (b.atR a (.inRegion ops (i :: rest) :: items)).finish c = b.atR (a.put o.dst c) (.inRegion ops rest :: items) := by rw [Frame.finish_atR, ho]; rfl
      rw [hfin] at s2
      exact hk.goOn C (hd.mono he.le) he hso hcs.refl (hcs.mono he.le) m3 h' s2
    | pan ch =>
      obtain ⟨c, m1, m2⟩ := e4
      have hleave : fr.leaving P w1 (.panicked c) := ⟨m1, e3, fn2, by rw [e1]; exact hf2⟩
      have s2 := s1.trans (.one (step_leave_panicked hleave))
      rw [Frame.raise_atR] at s2
      obtain ⟨x, hx, hE⟩ := hp ch c ρ1 S1 w1 t a ds u cs outs _ m2 (C.step he (C.tm.mono he.le)) (hd.mono he.le) (hcs.mono he.le) h'
      exact ⟨x, hx, (hE.of_steps s2).of_ext he hso hcs.refl⟩

theorem afterRound_ok {l : Nat} {args : List AV} {cargs : Array Value} {L : Loc} (hl : ρ.loc l = some L) (hargs : VRs ρ args cargs.toList) (hr : (execOp a.eval o).run P w = (Instr.yield L.blk cargs).run P w)
    (h : afterCall pk k (dstOf nt o.dst) t ds u (N.round l args S) = .ok outs) : ∃ x ∈ outs, Ends P b fn ρ S w cs x (lone (b.atR a (.inRegion ops (i :: rest) :: items)) cs w) := by
  cases hc : N.round l args S with
  | bad q => rw [hc] at h; cases h
  | ok out =>
    rw [hc] at h
    obtain ⟨e, u', S1⟩ := out
    obtain ⟨fid, tmps, as, bd, fn2, hy, ρ1, w1, he, hso, hre⟩ := hN.round l args S _ ρ w cargs L (b.atR a (.inRegion ops (i :: rest) :: items)) cs hc C.env C.glob C.hr C.facts hargs hl
    rw [hy] at hr
    have s0 := step_round (k := items) (cs := cs) (rest := rest) ho hw hea hr
    obtain ⟨c, rest', hcs', hend⟩ := hre
    cases hcs'
    have h' : afterEnd pk k (dstOf nt o.dst) t ds u e S1 = .ok outs := h
    cases e with
    | ret v =>
      obtain ⟨x, hx, hs⟩ := hend
      have s2 := Steps.head s0 hs
      have hfin : (b.atR a (.inRegion ops (i :: rest) :: items)).finish x = b.atR (a.put o.dst x) (.inRegion ops rest :: items) := by rw [Frame.finish_atR, ho]; rfl
      rw [hfin] at s2
      exact hk.goOn C (hd.mono he.le) he hso hcs.refl (hcs.mono he.le) hx h' s2
    | pan ch =>
      obtain ⟨x, hx, hs⟩ := hend
      have s2 := Steps.head s0 hs
      rw [Frame.raise_atR] at s2
      obtain ⟨y, hy', hE⟩ := hp ch x ρ1 S1 w1 t a ds u cs outs _ hx (C.step he (C.tm.mono he.le)) (hd.mono he.le) (hcs.mono he.le) h'
      exact ⟨y, hy', (hE.of_steps s2).of_ext he hso hcs.refl⟩

theorem afterNext_ok {nx : ANext} (hnx : NextOK P ρ S w nx ((execOp a.eval o).run P w)) (h : afterNext N (ekind b) pk k (dstOf nt o.dst) t ds u S nx = .ok outs) :
    ∃ x ∈ outs, Ends P b fn ρ S w cs x (lone (b.atR a (.inRegion ops (i :: rest) :: items)) cs w) := by
  generalize hr : (execOp a.eval o).run P w = r at hnx
  cases hnx with
  | val he hv hso => exact hk.goOn C (hd.mono he.le) he hso hcs.refl (hcs.mono he.le) hv h (.one (step_value ho hw hea hr))
  | skip he hso => exact hk.goOn C (hd.mono he.le) he hso hcs.refl (hcs.mono he.le) (.tup .nil) h (.one (step_skipped ho hw hea hr))
  | pan he hv hso =>
    rename_i ρ1 w1 c
    obtain ⟨x, hx, hE⟩ := hp _ [{ v := c, recovered := false }] ρ1 _ w1 t a ds u cs outs _ (.cons hv rfl rfl .nil) (C.step he (C.tm.mono he.le)) (hd.mono he.le) (hcs.mono he.le) h
    exact ⟨x, hx, (hE.of_steps (.one (step_panics ho hw hea hr))).of_ext he hso hcs.refl⟩
  | enter ha => exact afterCall_ok hN hp hk C hd hcs ho hw hea ha hr h
  | defer hdf =>
    rename_i d cd
    have h' : wr (dstOf nt o.dst) t undefA (fun t => k t (d :: ds) u S) = .ok outs := h
    have C' : Ctx P E ρ S w t nt { a with defers := cd :: a.defers } := ⟨C.env, C.glob, C.tm, C.hr, C.facts⟩
    exact hk.goOn C' (.cons hdf hd) (Ext.refl C.hr) (.refl w) hcs.refl hcs (.tup .nil) h' (.one (step_deferred ho hw hea hr))
  | recover =>
    have h' : recoverK (ekind b) k (dstOf nt o.dst) t ds u S = .ok outs := h
    cases hb : b.roundOf with
    | some l => rw [ekind_some hb] at h'; cases h'
    | none =>
      rw [ekind_none hb] at h'
      have hs := step_recover (P := P) (b := b) (k := items) (cs := cs) (rest := rest) ho hw hea hb hr
      unfold recoverK at h'
      cases hkind : b.kind with
      | deferred =>
        rw [hkind] at h'
        have hcs2 := hcs.1
        rw [ekind_none hb, hkind] at hcs2
        have := tryRecover_ok (a := a) (todo := .inRegion ops (i :: rest) :: items) hcs2 hkind
        cases ht : tryRecover (b.atR a (.inRegion ops (i :: rest) :: items)) cs with
        | none =>
          rw [ht] at this hs
          simp only at this hs h'
          rw [this] at h'
          exact hk.goOn C hd (Ext.refl C.hr) (.refl w) hcs.refl hcs .nilIface h' (.one hs)
        | some p =>
          obtain ⟨v, cs'⟩ := p
          rw [ht] at this hs
          obtain ⟨q1, q2, q3⟩ := this
          simp only at hs h'
          exact hk.goOn C hd (Ext.refl C.hr) (.refl w) (by rw [ekind_none hb, hkind]; exact q1) ⟨by rw [ekind_none hb, hkind]; exact q3, hcs.2⟩ q2 h' (.one hs)
      | early => rw [hkind] at h'; cases h'
      | _ =>
        rw [hkind] at h'
        simp only at h'
        have ht : tryRecover (b.atR a (.inRegion ops (i :: rest) :: items)) cs = none := by
          have hk2 : (b.atR a (.inRegion ops (i :: rest) :: items)).kind = b.kind := rfl
          have hcs2 := hcs.1
          rw [ekind_none hb, hkind] at hcs2
          cases hcs2 <;> (unfold tryRecover; rw [hk2, hkind])
        rw [ht] at hs
        exact hk.goOn C hd (Ext.refl C.hr) (.refl w) hcs.refl hcs .nilIface h' (.one hs)
  | round hl ha => exact afterRound_ok hN hp hk C hd hcs ho hw hea hl ha hr h
  | fork hmem hv =>
    rename_i l p
    have h' : flatR (fun p => wr (dstOf nt o.dst) t p.1 fun t => k t ds u p.2) l = .ok outs := h
    obtain ⟨s, q1, q2⟩ := flatR_mem h' hmem
    have key : ∃ x ∈ s, Ends P b fn ρ S w cs x (lone (b.atR a (.inRegion ops (i :: rest) :: items)) cs w) := by
      generalize hpp : ANext.val p.1 p.2 = nx at hv
      cases hv with
      | val he hv2 hso => cases hpp; exact hk.goOn C (hd.mono he.le) he hso hcs.refl (hcs.mono he.le) hv2 q1 (.one (step_value ho hw hea hr))
      | skip he hso =>
        injection hpp with hp1 hp2
        rw [hp1, hp2] at q1
        exact hk.goOn C (hd.mono he.le) he hso hcs.refl (hcs.mono he.le) (.tup .nil) q1 (.one (step_skipped ho hw hea hr))
      | _ => cases hpp
    obtain ⟨x, hx, hE⟩ := key
    exact ⟨x, q2 x hx, hE⟩

end
end Go.Ev

/- A verified evaluator. Part S33: boxes of operations; regions in the text's order. -/
namespace Go.Ev

section
variable {P : Program} {E : Env} {b : Frame} {fn : Func} {nt : Nat}

theorem genD_ok {ops : Array Oper} {i : Nat} {o : Oper} : ODOK P E b fn nt (.mk (genD E (ekind b) o.op (dstOf nt o.dst))) ops i o := by
  intro N pk k rest items hN hp hk ρ S w t a ds u cs outs C hd hcs ho hw hea h
  have h' : afterOp N (ekind b) pk k (dstOf nt o.dst) t ds u S (evOp E t S o.op) = .ok outs := h
  cases hq : evOp E t S o.op with
  | bad q => rw [hq] at h'; cases h'
  | ok nx =>
    rw [hq] at h'
    exact afterNext_ok hN hp hk C hd hcs ho hw hea (evOp_ok C hq) h'

/- A short cut that comes to what the operation comes to. -/
theorem short_ok {N : Nest} {pk : List APan → K} {k : K} {ops : Array Oper} {i : Nat} {rest : List Nat} {items : List Item} {o : Oper}
    {ρ : Rho} {S : St} {w : World} {t : T AV} {a : Act} {ds : List ADI} {u : AMode} {cs : List Frame} {outs : List Out}
    (hN : NestOK P E N) (hp : PanOK P E b fn nt pk) (hk : KOK P E b fn nt k (.inRegion ops rest :: items)) (C : Ctx P E ρ S w t nt a) (hd : DefsR ρ ds a.defers) (hcs : CsB ρ b u cs)
    (ho : ops[i]? = some o) (hw : Region.wanted o (yielded ops a.tmps) = true) (hea : o.semAt b.roundOf a.eval = execOp a.eval o) {v : AV} (he : evOp E t S o.op = .ok (.val v S)) (h : wr (dstOf nt o.dst) t v (fun t => k t ds u S) = .ok outs) :
    ∃ x ∈ outs, Ends P b fn ρ S w cs x (lone (b.atR a (.inRegion ops (i :: rest) :: items)) cs w) :=
  afterNext_ok hN hp hk C hd hcs ho hw hea (evOp_ok C he) h

theorem opD_ok {ops : Array Oper} {i : Nat} {o : Oper} : ODOK P E b fn nt (opD E (ekind b) o.op (dstOf nt o.dst)) ops i o := by
  have gen := @genD_ok P E b fn nt ops i o
  unfold opD
  split
  · -- move
    rename_i x hop
    intro N pk k rest items hN hp hk ρ S w t a ds u cs outs C hd hcs ho hw hea h
    have h' : rd (srcOf E x) t (fun v => wr (dstOf nt o.dst) t v fun t => k t ds u S) = .ok outs := h
    obtain ⟨v, h1, h2, h3⟩ := rd_ok C.glob C.tm h'
    refine short_ok hN hp hk C hd hcs ho hw hea (v := v) ?_ h3
    rw [hop]; show valR S (evO E t x) = _; rw [h2]; rfl
  · rename_i x hop
    intro N pk k rest items hN hp hk ρ S w t a ds u cs outs C hd hcs ho hw hea h
    have h' : rd (srcOf E x) t (fun v => wr (dstOf nt o.dst) t v fun t => k t ds u S) = .ok outs := h
    obtain ⟨v, h1, h2, h3⟩ := rd_ok C.glob C.tm h'
    refine short_ok hN hp hk C hd hcs ho hw hea (v := v) ?_ h3
    rw [hop]; show valR S (evO E t x) = _; rw [h2]; rfl
  · rename_i bop tt x y yt hop
    split
    · exact gen
    · rename_i hs
      intro N pk k rest items hN hp hk ρ S w t a ds u cs outs C hd hcs ho hw hea h
      have h' : rd (srcOf E x) t (fun va => rd (srcOf E y) t fun vb =>
        match va with
        | .int j m => (match vb with
          | .int j' n => (match kindEq j j' with
            | true => (match aInt bop j m n with | .ok v => wr (dstOf nt o.dst) t v fun t => k t ds u S | .bad w => .bad w)
            | false => .bad "kinds")
          | _ => genD E (ekind b) o.op (dstOf nt o.dst) N pk k t ds u S)
        | _ => genD E (ekind b) o.op (dstOf nt o.dst) N pk k t ds u S) = .ok outs := h
      obtain ⟨va, h1, h2, h3⟩ := rd_ok C.glob C.tm h'
      obtain ⟨vb, h4, h5, h6⟩ := rd_ok C.glob C.tm h3
      split at h6
      · split at h6
        · split at h6
          · rename_i hkq
            split at h6
            · rename_i v hv
              refine short_ok hN hp hk C hd hcs ho hw hea (v := v) ?_ h6
              rw [hop]
              show ((evO E t x).bind fun a => (evO E t y).bind fun b => aBin E S bop tt x y a b) = _
              rw [h2, h5]
              simp only [R.bind, aBin, hs, hkq, hv]
              rfl
            · cases h6
          · cases h6
        · exact gen N pk k rest items hN hp hk ρ S w t a ds u cs outs C hd hcs ho hw hea h6
      · exact gen N pk k rest items hN hp hk ρ S w t a ds u cs outs C hd hcs ho hw hea h6
  · rename_i args ts hop
    split
    · rename_i x tt tr hargs hts
      intro N pk k rest items hN hp hk ρ S w t a ds u cs outs C hd hcs ho hw hea h
      have h' : rd (srcOf E x) t (fun v => match lenV S (lenKindOf E tt) v with
        | .ok n => wr (dstOf nt o.dst) t (.int .i64 (Int.ofNat n)) fun t => k t ds u S
        | .bad w => .bad w) = .ok outs := h
      obtain ⟨v, h1, h2, h3⟩ := rd_ok C.glob C.tm h'
      split at h3
      · rename_i n hn
        refine short_ok hN hp hk C hd hcs ho hw hea (v := .int .i64 (Int.ofNat n)) ?_ h3
        rw [hop]
        show evCall E t S _ = _
        unfold evCall
        simp only [hargs, hts]
        show ((evO E t x).bind fun a => (R.ok []).bind fun l => R.ok (a :: l)).bind _ = _
        rw [h2]
        show (lenB E S tt v).bind _ = _
        unfold lenB
        rw [hn]; rfl
      · cases h3
    · exact gen
  · rename_i f args ts hop
    split
    · rename_i hpl
      intro N pk k rest items hN hp hk ρ S w t a ds u cs outs C hd hcs ho hw hea h
      have h' : (match evOs E t args.toList with
        | .ok vs => afterCall pk k (dstOf nt o.dst) t ds u (N.call f vs .normal .run S)
        | .bad w => .bad w) = .ok outs := h
      split at h'
      · rename_i vs hvs
        have hev : evOp E t S o.op = .ok (.enter f vs) := by
          rw [hop]
          show evCall E t S _ = _
          unfold evCall
          simp only [hvs]
          show aCallFunc E S f (([] ++ vs) ++ []) = _
          unfold aCallFunc
          unfold plainFn at hpl
          split at hpl
          · rename_i fnn hfn
            rw [hfn]
            simp only [List.nil_append, List.append_nil]
            rfl
          · cases hpl
        exact afterNext_ok hN hp hk C hd hcs ho hw hea (evOp_ok C hev) h'
      · cases h'
    · exact gen
  · exact gen

/- One operation of a region, wanted or not. -/
theorem operD_ok {N : Nest} {pk : List APan → K} {k : K} {ops : Array Oper} {i : Nat} {rest : List Nat} {items : List Item} {o : Oper}
    {ρ : Rho} {S : St} {w : World} {t : T AV} {a : Act} {ds : List ADI} {u : AMode} {cs : List Frame} {outs : List Out}
    (hN : NestOK P E N) (hp : PanOK P E b fn nt pk) (hk : KOK P E b fn nt k (.inRegion ops rest :: items)) (C : Ctx P E ρ S w t nt a) (hd : DefsR ρ ds a.defers) (hcs : CsB ρ b u cs)
    (ho : ops[i]? = some o) (hea : o.semAt b.roundOf a.eval = execOp a.eval o) (h : runOD (operD E nt (ekind b) ops.toList o) N pk k t ds u S = .ok outs) :
    ∃ x ∈ outs, Ends P b fn ρ S w cs x (lone (b.atR a (.inRegion ops (i :: rest) :: items)) cs w) := by
  have hwant := wanted_ok C.tm ops o
  unfold operD at h
  split at h
  · rename_i hg
    have hw : Region.wanted o (yielded ops a.tmps) = true := by rw [← hwant, hg]; rfl
    exact opD_ok N pk k rest items hN hp hk ρ S w t a ds u cs outs C hd hcs ho hw hea h
  · rename_i g hg
    have h' : (match guardA ops.toList t g with
      | true => runOD (opD E (ekind b) o.op (dstOf nt o.dst)) N pk k t ds u S
      | false => wr (dstOf nt o.dst) t undefA fun t => k t ds u S) = .ok outs := h
    have hwg : Region.wanted o (yielded ops a.tmps) = guardA ops.toList t g := by rw [← hwant, hg]; rfl
    split at h'
    · rename_i hq
      exact opD_ok N pk k rest items hN hp hk ρ S w t a ds u cs outs C hd hcs ho (by rw [hwg, hq]) hea h'
    · rename_i hq
      have hs := stepR_op_skip (P := P) (b := b) (a := a) (k := items) (cs := cs) (w := w) (ops := ops) (i := i) (rest := rest) (by rw [ho]; simp [hwg, hq])
      rw [ho] at hs
      exact hk.goOn C hd (Ext.refl C.hr) (.refl w) hcs.refl hcs (.tup .nil) h' (.one hs)

theorem opsD_ok {ops : Array Oper} (hR : PlainOps b ops) {items : List Item} {N : Nest} {pk : List APan → K} (hN : NestOK P E N) (hp : PanOK P E b fn nt pk) :
    ∀ (os : List Oper) (j : Nat) (k : K), os = ops.toList.drop j → j ≤ ops.size → KOK P E b fn nt k items → KOK P E b fn nt (runOD (opsD E nt (ekind b) ops.toList os) N pk k) (.inRegion ops (List.range' j (ops.size - j)) :: items) := by
  intro os
  induction os with
  | nil =>
    intro j k he hj hk ρ S w t a ds u cs outs C hd hcs h
    have hjs : ops.size - j = 0 := by
      have := congrArg List.length he
      simp at this; omega
    rw [hjs]
    obtain ⟨o, h1, h2⟩ := hk ρ S w t a ds u cs outs C hd hcs h
    exact ⟨o, h1, h2.of_steps (.one stepR_region_end)⟩
  | cons o os ih =>
    intro j k he hj hk ρ S w t a ds u cs outs C hd hcs h
    have hlen := congrArg List.length he
    simp at hlen
    have hjs : ops.size - j = (ops.size - (j + 1)) + 1 := by omega
    have ho : ops[j]? = some o := by
      have := congrArg (·[0]?) he
      simpa using this.symm
    have hos : os = ops.toList.drop (j + 1) := by
      have := congrArg List.tail he
      simpa using this
    rw [hjs, List.range'_succ]
    exact operD_ok hN hp (ih (j + 1) k hos (by omega) hk) C hd hcs ho (hR.at ho _) h

end
end Go.Ev

/- A verified evaluator. Part S34: results; deferred calls; leaving. -/
namespace Go.Ev

/- A block's object turns, and nothing more is said of it. -/
theorem Ext.putDrop {ρ : Rho} {S : St} {h h' : Array Obj} (H : HR ρ S h) {b : Nat} {o : AObj} {L : Loc} {X : Obj}
    (hb : S.heap.get b = some o) (hrw : o.rw = true) (hL : ρ.loc b = some L) (hh : h' = h.setIfInBounds L.blk X) (hg : o.group = none)
    (hm : MapTurn h[L.blk]? (some X)) : Ext ρ S h ρ (S.drop b) h' := by
  have hlt : L.blk < h.size := by
    obtain ⟨L', e1, e2⟩ := H.objs b o hb
    rw [hL] at e1; injection e1 with e1; subst e1; exact e2.lt
  have hsz : h'.size = h.size := by rw [hh]; simp
  have hat : ∀ k, h'[k]? = if k = L.blk then some X else h[k]? := by
    intro k; rw [hh, Array.getElem?_setIfInBounds]
    by_cases e : L.blk = k
    · subst e; rw [if_pos rfl, if_pos rfl, if_pos hlt]
    · rw [if_neg e, if_neg (fun x => e x.symm)]
  have hD : ∀ k ok, (S.drop b).heap.get k = some ok → k ≠ b ∧ S.heap.get k = some ok := by
    intro k ok hk
    rw [St.drop_get] at hk
    by_cases ck : k = b
    · rw [if_pos ck] at hk; cases hk
    · rw [if_neg ck] at hk; exact ⟨ck, hk⟩
  have others : ∀ b2 o2 L2, b2 ≠ b → S.heap.get b2 = some o2 → ρ.loc b2 = some L2 → L2.blk ≠ L.blk := by
    intro b2 o2 L2 hne h2 hl2 heq
    rcases H.inj b2 b o2 o L2 L h2 hb hl2 hL heq with e | ⟨g, g1, g2⟩
    · exact hne e
    · rw [hg] at g2; cases g2
  have hmt : ∀ r M, ρ.loc r = some M → MapTurn h[M.blk]? h'[M.blk]? := by
    intro r M _
    rw [hat]
    by_cases e : M.blk = L.blk
    · rw [if_pos e, e]; exact hm
    · rw [if_neg e]; exact .inl rfl
  have e0 := Ext.drop H b
  refine ⟨ρ.le_refl, ⟨?_, e0.hr.inj, e0.hr.next, ?_, e0.hr.grp, e0.hr.gnext⟩, Nat.le_of_eq hsz.symm, ?_, ?_, e0.nextle, e0.log, fun _ _ e => .inl e, ?_⟩
  · intro k ok hk
    obtain ⟨c1, hk'⟩ := hD k ok hk
    obtain ⟨L2, e1, e2⟩ := H.objs k ok hk'
    exact ⟨L2, e1, e2.mono ρ.le_refl (by rw [hat, if_neg (others k ok L2 c1 hk' e1)]) hmt⟩
  · intro k M e; rw [hsz]; exact H.bound k M e
  · intro k hk hn
    rw [hat, if_neg]
    intro e
    exact hn ⟨b, o, L, hb, hrw, hL, e.symm⟩
  · rintro k hk ⟨b2, o2, L2, e1, e2⟩
    exact ⟨b2, o2, L2, (hD b2 o2 e1).2, e2⟩
  · rintro k hk ⟨b2, o2, L2, e1, e2⟩
    exact ⟨b2, o2, L2, (hD b2 o2 e1).2, e2⟩

section
variable {P : Program} {E : Env}

theorem aLoadVar_ok {ρ : Rho} {S : St} {w : World} (K : EnvOK P E) (H : HR ρ S w.heap) {tt : TypeId} {x v : AV} {cx : Value} (h : aLoad E S tt x = .ok v) (hx : VR ρ x cx) :
    ∃ A c, (asAddr cx).run P w = .ok A w ∧ (loadVar tt A).run P w = .ok c w ∧ VR ρ v c := by
  unfold aLoad at h
  obtain ⟨i, h4, h5⟩ := R.bind_ok h
  have hi := tiOf_ok K h4
  split at h5
  · cases hx with | ptr hL =>
    rename_i b o L
    refine ⟨⟨L.blk, L.sh + o, none⟩, ?_⟩
    have hA : ∀ A : Addr, (asAddr (.pointer (some A))).run P w = .ok A w := fun _ => rfl
    split at h5
    · rename_i ha
      obtain ⟨l, g1, rfl⟩ := R.map_ok h5
      obtain ⟨cs, c1, c2, c3, c4⟩ := load_ok (P := P) H g1 hL
      refine ⟨.agg cs.toArray, hA _, ?_, .agg (by simpa using c1)⟩
      simp only [loadVar, Sem.run_bind, Result.andThen_ok, hi.run_agg w, ha, if_true, hi.run_size w, c4, Sem.run_pure]
    · rename_i ha
      obtain ⟨l, g1, g2⟩ := R.bind_ok h5
      obtain ⟨cs, c1, c2, c3, c4⟩ := load_ok (P := P) H g1 hL
      cases c1 with
      | nil => cases g2
      | cons hv hs =>
        rename_i v0 c0 vs cs0
        cases g2
        have hc0 := c3 0 (by omega)
        refine ⟨c0, hA _, ?_, hv⟩
        simp only [loadVar, Sem.run_bind, Result.andThen_ok, hi.run_agg w, ha, Bool.false_eq_true, if_false, run_load]
        rw [show L.sh + o = L.sh + o + 0 from rfl, hc0]; rfl
  · cases h5

def resOne (tmps : Array Value) : ResultVar → Sem Value
  | .tmp t => pure (tmps.getD t undef)
  | .cell a t => do loadVar t (← asAddr (tmps.getD a undef))

theorem resultsL_ok {ρ : Rho} {S : St} {w : World} (K : EnvOK P E) (H : HR ρ S w.heap) {nt : Nat} {t : T AV} {a : Array Value} (ht : TmR ρ nt t a) :
    ∀ {rs : List ResultVar} {l : List AV}, resultsA E S t rs = .ok l → ∃ cs : List Value, (rs.mapM (resOne a) : Sem (List Value)).run P w = .ok cs w ∧ VRs ρ l cs := by
  intro rs
  have val : ∀ i, VR ρ (match t.get i with | some v => v | none => undefA) (a.getD i undef) := by
    intro i
    have := ht.vals i
    cases hq : t.get i with
    | none => rw [hq] at this; exact this
    | some v => rw [hq] at this; exact this
  induction rs with
  | nil => intro l h; cases h; exact ⟨[], by simp [List.mapM_nil], .nil⟩
  | cons r rs ih =>
    intro l h
    cases r with
    | tmp i =>
      have h' : (resultsA E S t rs).bind (fun l => R.ok ((match t.get i with | some v => v | none => undefA) :: l)) = .ok l := h
      obtain ⟨l', h1, h2⟩ := R.bind_ok h'
      cases h2
      obtain ⟨cs, r1, r2⟩ := ih h1
      refine ⟨a.getD i undef :: cs, ?_, .cons (val i) r2⟩
      rw [List.mapM_cons]
      have h0 : (resOne a (.tmp i)).run P w = .ok (a.getD i undef) w := rfl
      simp only [Sem.run_bind, h0, r1, Sem.run_pure, Result.andThen_ok]
    | cell i tt =>
      have h' : (aLoad E S tt (match t.get i with | some v => v | none => undefA)).bind (fun v => (resultsA E S t rs).bind fun l => R.ok (v :: l)) = .ok l := h
      obtain ⟨v, h1, h2⟩ := R.bind_ok h'
      obtain ⟨l', h3, h4⟩ := R.bind_ok h2
      cases h4
      obtain ⟨A, c, q1, q2, q3⟩ := aLoadVar_ok K H h1 (val i)
      obtain ⟨cs, r1, r2⟩ := ih h3
      refine ⟨c :: cs, ?_, .cons q3 r2⟩
      rw [List.mapM_cons]
      have h0 : (resOne a (.cell i tt)).run P w = .ok c w := by
        show (do loadVar tt (← asAddr (a.getD i undef)) : Sem Value).run P w = _
        simp only [Sem.run_bind, q1, q2, Result.andThen_ok]
      simp only [Sem.run_bind, h0, r1, Sem.run_pure, Result.andThen_ok]

theorem results_ok {ρ : Rho} {S : St} {w : World} (K : EnvOK P E) (H : HR ρ S w.heap) {nt : Nat} {t : T AV} {a : Array Value} (ht : TmR ρ nt t a) {fn : Func} {l : List AV}
    (h : resultsA E S t fn.results.toList = .ok l) : ∃ c, (results fn a).run P w = .ok c w ∧ VR ρ (resultA l) c := by
  obtain ⟨cs, r1, r2⟩ := resultsL_ok K H ht h
  have hm : (fn.results.mapM (resOne a) : Sem (Array Value)).run P w = .ok cs.toArray w := by
    rw [Array.mapM_eq_mapM_toList]
    simp only [map_eq_pure_bind, Sem.run_bind, r1, Result.andThen_ok, Sem.run_pure]
  have hres : (results fn a).run P w = .ok (if h : cs.toArray.size = 1 then cs.toArray[0] else .tuple cs.toArray) w := by
    have : results fn a = (do let vs ← fn.results.mapM (resOne a); pure (if h : vs.size = 1 then vs[0] else .tuple vs)) := by
      unfold results
      congr 1
    rw [this, Sem.run_bind, hm]; rfl
  refine ⟨_, hres, ?_⟩
  unfold resultA
  split
  · obtain ⟨c, rfl, hv⟩ := r2.one
    exact hv
  · rename_i hne
    have : ¬ cs.toArray.size = 1 := by
      intro h1
      have : l.length = 1 := by rw [r2.length]; simpa using h1
      obtain ⟨v, rfl⟩ := List.length_eq_one_iff.1 this
      exact hne v rfl
    rw [dif_neg this]
    exact .tup (by simpa using r2)

variable {b : Frame} {fn : Func} {nt : Nat}

def settleM (m : FrameMode) : FrameMode :=
  match m with
  | .panicking ({ recovered := true, .. } :: older) => (match older.dropWhile (!·.goexit) with | [] => .returning | rest => .panicking rest)
  | m => m

def raisedM (c : List PanicEntry) (m : FrameMode) : FrameMode :=
  match m with
  | .panicking chain => .panicking (c ++ chain)
  | _ => .panicking c

theorem ModeR.settle {ρ : Rho} {u : AMode} {m : FrameMode} (h : ModeR ρ u m) : ModeR ρ (settleA u) (settleM m) := by
  cases h with
  | run => exact .run
  | returning => exact .returning
  | panicking hp =>
    cases hp with
    | nil => exact .panicking .nil
    | cons hv hr hg hs =>
      rename_i p e ps es
      obtain ⟨pv, pr⟩ := p
      obtain ⟨ev, er, eg⟩ := e
      simp only at hr
      subst hr
      cases pr with
      | true =>
        simp only [settleM, hs.noexit]
        exact .returning
      | false => exact .panicking (.cons hv rfl hg hs)

theorem ModeR.raised {ρ : Rho} {u : AMode} {m : FrameMode} {ch : List APan} {c : List PanicEntry} (h : ModeR ρ u m) (hc : PansR ρ ch c) : ModeR ρ (raisedA u ch) (raisedM c m) := by
  cases h with
  | run => exact .panicking hc
  | returning => exact .panicking hc
  | panicking hp => exact .panicking (hc.append hp)

/- The machine's steps of a frame that unwinds. -/
theorem step_call_deferred {tmps : Array Value} {args0 : Array Value} {ds : List Deferred} {m : FrameMode} {todo : List Item} {cs : List Frame} {w w' : World} {f : FuncId} {args : Array Value} {fn' : Fn} {cap : Array Value}
    (hm : m ≠ .run) (hr : (invoke (.fn fn' cap) args0).run P w = .ok (.enter f args) w') :
    step P (lone (Frame.un b tmps ({ target := .fn fn' cap, args := args0 } :: ds) m todo) cs w) = .next (lone (Frame.enter P f args .deferred) (Frame.un b tmps ds m todo :: cs) w') := by
  refine step_lone_go ?_
  cases m with
  | run => exact absurd rfl hm
  | returning => simp [Frame.un, stepG, Go.unwind, callDeferred, hr]
  | panicking c => simp [Frame.un, stepG, Go.unwind, callDeferred, hr]

theorem step_deferred_back {tmps : Array Value} {ds : List Deferred} {m : FrameMode} {todo : List Item} {cs : List Frame} {fr : Frame} {w : World} {v : Value} {fn2 : Func}
    (hf : P.funcs[fr.fn]? = some fn2) (h1 : fr.mode = .returning) (h2 : fr.defers = []) (h3 : fr.kind = .deferred) (h4 : (results fn2 fr.tmps).run P w = .ok v w) :
    step P (lone fr (Frame.un b tmps ds m todo :: cs) w) = .next (lone (Frame.un b tmps ds (settleM m) todo) cs w) := by
  refine step_lone_go ?_
  cases m with
  | run => simp [stepG, Go.unwind, doReturn, h1, h2, h3, hf, h4, settleM, Frame.un]
  | returning => simp [stepG, Go.unwind, doReturn, h1, h2, h3, hf, h4, settleM, Frame.un]
  | panicking c =>
    cases c with
    | nil => simp [stepG, Go.unwind, doReturn, h1, h2, h3, hf, h4, settleM, Frame.un]
    | cons e older =>
      obtain ⟨ev, er, eg⟩ := e
      cases er with
      | false => simp [stepG, Go.unwind, doReturn, h1, h2, h3, hf, h4, settleM, Frame.un]
      | true =>
        cases hq : older.dropWhile (!·.goexit) with
        | nil => simp [stepG, Go.unwind, doReturn, h1, h2, h3, hf, h4, settleM, Frame.un, hq]
        | cons x xs => simp [stepG, Go.unwind, doReturn, h1, h2, h3, hf, h4, settleM, Frame.un, hq]

theorem step_deferred_panics {tmps : Array Value} {ds : List Deferred} {m : FrameMode} {todo : List Item} {cs : List Frame} {fr : Frame} {w : World} {c : List PanicEntry} {fn2 : Func}
    (hf : P.funcs[fr.fn]? = some fn2) (h1 : fr.mode = .panicking c) (h2 : fr.defers = []) :
    step P (lone fr (Frame.un b tmps ds m todo :: cs) w) = .next (lone (Frame.un b tmps ds (raisedM c m) todo) cs w) := by
  refine step_lone_go ?_
  cases m <;> simp [stepG, Go.unwind, Frame.catches, h1, h2, hf, raisedM, Frame.un, Frame.raise]

theorem run_takeDeferred {P : Program} {w : World} {r : Nat} (h : w.heap[r]? = some (.deferred (some []))) :
    (Instr.takeDeferred r).run P w = .ok [] { w with heap := w.heap.setIfInBounds r (.deferred none) } := by
  unfold Instr.takeDeferred
  simp only [Sem.run_bind, run_getObj h, Result.andThen_ok, run_setObj h, Sem.run_pure]

theorem step_collected {tmps : Array Value} {ds : List Deferred} {m : FrameMode} {todo : List Item} {cs : List Frame} {w w' : World} {r : Nat} {calls : List Deferred} {args : Array Value}
    (hm : m ≠ .run) (hr : (Instr.takeDeferred r).run P w = .ok calls w') :
    step P (lone (Frame.un b tmps ({ target := .collected r, args := args } :: ds) m todo) cs w) = .next (lone (Frame.un b tmps (calls ++ ds) m todo) cs w') := by
  refine step_lone_go ?_
  cases m with
  | run => exact absurd rfl hm
  | returning => simp [Frame.un, stepG, Go.unwind, Sem.runT_eq, hr, GStep.bare_after]
  | panicking c => simp [Frame.un, stepG, Go.unwind, Sem.runT_eq, hr, GStep.bare_after]

theorem unwind_ok {N : Nest} (hN : NestOK P E N) (hb0 : b.roundOf = none) {t : T AV} {a : Array Value} :
    ∀ (ds : List ADI) (cds : List Deferred) (mode u : AMode) (m : FrameMode) (ρ : Rho) (S : St) (w : World) (cs : List Frame) (outs : List Out) (todo : List Item),
      EnvOK P E → GlobalsAt ρ E.nglob → TmR ρ nt t a → HR ρ S w.heap → FactsOK E ρ.sig → DefsR ρ ds cds → ModeR ρ mode m → CsR ρ b.kind u cs →
      Ev.unwind E N fn.results.toList t u ds mode S = .ok outs → ∃ o ∈ outs, Ends P b fn ρ S w cs o (lone (Frame.un b a cds m todo) cs w) := by
  intro ds
  induction ds with
  | nil =>
    intro cds mode u m ρ S w cs outs todo K hg ht H F hd hm hcs h
    cases hd
    have h' : finA E fn.results.toList t mode u S = .ok outs := h
    unfold finA at h'
    cases hm with
    | run => cases h'
    | returning =>
      simp only at h'
      obtain ⟨l, h1, h2⟩ := R.bind_ok h'
      cases h2
      obtain ⟨c, r1, r2⟩ := results_ok K H ht h1
      exact ⟨_, List.mem_singleton.2 rfl, .mk_plain hb0 ⟨ρ, w, _, cs, Steps.refl _ _, Ext.refl H, ⟨rfl, rfl, rfl, rfl, c, r1, r2⟩, hcs.refl, hcs, .refl w⟩⟩
    | panicking hp =>
      cases h'
      exact ⟨_, List.mem_singleton.2 rfl, .mk_plain hb0 ⟨ρ, w, _, cs, Steps.refl _ _, Ext.refl H, ⟨rfl, rfl, rfl, _, rfl, hp⟩, hcs.refl, hcs, .refl w⟩⟩
  | cons d ds ih =>
    intro cds mode u m ρ S w cs outs todo K hg ht H F hd hm hcs h
    cases hd with | cons hdd hds =>
    rename_i cd cds
    have h' : unwindOne E N d mode S (Ev.unwind E N fn.results.toList t u ds) = .ok outs := h
    unfold unwindOne at h'
    cases hdd with
    | collected hL =>
      rename_i r L
      simp only at h'
      split at h'
      · rename_i hrun hget
        have hmr : m ≠ .run := by
          intro e
          subst e
          cases hm
          cases hrun
        obtain ⟨L', e1, e2⟩ := H.objs r _ hget
        rw [hL] at e1; injection e1 with e1; subst e1
        cases e2 with | deferred at_ =>
        have hs := step_collected (P := P) (b := b) (tmps := a) (ds := cds) (todo := todo) (cs := cs) (args := #[]) hmr (run_takeDeferred at_)
        have he : Ext ρ S w.heap ρ (S.drop r) ({ w with heap := w.heap.setIfInBounds L.blk (.deferred none) } : World).heap :=
          Ext.putDrop H hget rfl hL rfl rfl (.inr fun _ _ h => by cases h)
        obtain ⟨o, ho, hE⟩ := ih cds mode u m ρ (S.drop r) { w with heap := w.heap.setIfInBounds L.blk (.deferred none) } cs outs todo K hg ht he.hr F hds hm hcs h'
        exact ⟨o, ho, (hE.of_steps (.one hs)).of_ext he ⟨rfl, rfl, rfl⟩ (by rw [ekind_none hb0]; exact hcs.refl)⟩
      · cases h'
    | call hf hc ha =>
      rename_i fn1 fn1' cap args cap' args'
      simp only at h'
      split at h'
      · rename_i f args2 hrun hinv
        have C0 : Ctx P E ρ S w t nt { tmps := a, defers := [] } := ⟨K, hg, ht, H, F⟩
        have hnx := aInvoke_ok C0 hinv hf hc ha
        generalize hrr : (invoke (.fn fn1' cap') args').run P w = rr at hnx
        cases hnx with
        | enter hargs =>
          rename_i cargs
          have hmr : m ≠ .run := by
            intro e
            subst e
            cases hm
            cases hrun
          cases hcall : N.call f args2 .deferred mode S with
          | bad q => rw [hcall] at h'; cases h'
          | ok out =>
            rw [hcall] at h'
            obtain ⟨e, u', S1⟩ := out
            obtain ⟨fn2, hf2, hE2⟩ := hN.call f args2 .deferred mode S _ ρ w cargs (Frame.un b a cds m todo :: cs) hcall K hg H F hargs (.deferred hm)
            obtain ⟨ρ1, w1, fr, cs1, hs, he, hend, hto, hcs1, hso⟩ := hE2.plain rfl
            cases hto with | deferred =>
            rename_i m1
            cases hcs1 with | deferred hm1 =>
            have s1 := Steps.head (step_call_deferred (b := b) (tmps := a) (ds := cds) (todo := todo) (cs := cs) hmr hrr) hs
            obtain ⟨e1, e2, e3, e4⟩ := hend
            have hun : ({ Frame.un b a cds m todo with mode := m1 } : Frame) = Frame.un b a cds m1 todo := rfl
            rw [hun] at s1
            cases e with
            | ret v =>
              obtain ⟨q1, c, q2, q3⟩ := e4
              have s2 := s1.trans (.one (step_deferred_back (m := m1) (by rw [e1]; exact hf2) q1 e3 e2 q2))
              have h2 : Ev.unwind E N fn.results.toList t u ds (settleA u') S1 = .ok outs := h'
              obtain ⟨o, ho, hE⟩ := ih cds _ u _ ρ1 S1 w1 cs outs todo K (hg.mono he.le) (ht.mono he.le) he.hr (by rw [he.le.2]; exact F) (hds.mono he.le) hm1.settle (hcs.mono he.le) h2
              exact ⟨o, ho, (hE.of_steps s2).of_ext he hso (by rw [ekind_none hb0]; exact hcs.refl)⟩
            | pan ch =>
              obtain ⟨c, q1, q2⟩ := e4
              have s2 := s1.trans (.one (step_deferred_panics (m := m1) (by rw [e1]; exact hf2) q1 e3))
              have h2 : Ev.unwind E N fn.results.toList t u ds (raisedA u' ch) S1 = .ok outs := h'
              obtain ⟨o, ho, hE⟩ := ih cds _ u _ ρ1 S1 w1 cs outs todo K (hg.mono he.le) (ht.mono he.le) he.hr (by rw [he.le.2]; exact F) (hds.mono he.le) (hm1.raised q2) (hcs.mono he.le) h2
              exact ⟨o, ho, (hE.of_steps s2).of_ext he hso (by rw [ekind_none hb0]; exact hcs.refl)⟩
        | _ => cases hinv
      · cases h'

end
end Go.Ev

/- A verified evaluator. Part S35: code. -/
namespace Go.Ev

section
variable (P : Program) (E : Env) (b : Frame) (fn : Func) (nt : Nat)

structure ExOK (ex : Ex) (items : List Item) : Prop where
  exits : ∀ id k, findExit ex.exits id = some k → ∃ items', exitTo id items = some items' ∧ KOK P E b fn nt k items'
  nowhere : ∀ id, findExit ex.exits id = none → exitTo id items = none
  ret : ∀ todo, KOK P E b fn nt (ex.leave (some .ret)) (.code .ret :: todo)
  leave : ∀ id todo, exitTo id todo = none → KOK P E b fn nt (ex.leave (some (.exit id))) (.code (.exit id) :: todo)
  panic : PanOK P E b fn nt ex.panic

def CDOK (d : CD) (c : Code) : Prop :=
  ∀ (N : Nest) (ex : Ex) (k : K) (items : List Item), NestOK P E N → ExOK P E b fn nt ex items → KOK P E b fn nt k items → KOK P E b fn nt (runCD d N ex k) (.code c :: items)

/- Regions that draw their order: shown in the next parts. -/
def DrawsOK : Prop :=
  ∀ (ops : Array Oper) (N : Nest) (k : K) (items : List Item), PlainOps b ops → NestOK P E N → KOK P E b fn nt k items →
    ∀ (ρ : Rho) (S : St) (w : World) (t : T AV) (a : Act) (ds : List ADI) (u : AMode) (cs : List Frame) (outs : List Out) (tape : Nat), Ctx P E ρ S w t nt a → DefsR ρ ds a.defers → CsB ρ b u cs →
      runRD (drawD ops.toList) E nt N ops.toList k t ds u S = .ok outs → ∃ o ∈ outs, Ends P b fn ρ S w cs o (lone (b.atR a (.inRegion ops (Region.schedule (P.follows .mixedOrders) ops tape) :: items)) cs w)
end

section
variable {P : Program} {E : Env} {b : Frame} {fn : Func} {nt : Nat}

theorem ExOK.skip {ex : Ex} {items : List Item} (h : ExOK P E b fn nt ex items) {x : Item} (hx : ∀ id, exitTo id (x :: items) = exitTo id items) : ExOK P E b fn nt ex (x :: items) :=
  ⟨fun id k e => by rw [hx]; exact h.exits id k e, fun id e => by rw [hx]; exact h.nowhere id e, h.ret, h.leave, h.panic⟩

theorem KOK.step {k : K} {todo todo' : List Item} (hk : KOK P E b fn nt k todo') (hs : ∀ (a : Act) (cs : List Frame) (w : World), step P (lone (b.atR a todo) cs w) = .next (lone (b.atR a todo') cs w)) : KOK P E b fn nt k todo := by
  intro ρ S w t a ds u cs outs C hd hcs h
  obtain ⟨o, h1, h2⟩ := hk ρ S w t a ds u cs outs C hd hcs h
  exact ⟨o, h1, h2.of_steps (.one (hs a cs w))⟩

theorem bad_ok {why : String} {todo : List Item} : KOK P E b fn nt (fun _ _ _ _ => .bad why) todo := by
  intro ρ S w t a ds u cs outs C hd hcs h; cases h

theorem stepR_scope {a : Act} {c : Code} {k : List Item} {cs : List Frame} {w : World} :
    step P (lone (b.atR a (.code (.scope c) :: k)) cs w) = .next (lone (b.atR a (.code c :: .inScope c :: k)) cs w) :=
  step_lone_go (by simp [stepG, stepG.exec, Frame.atR])

theorem stepR_inScope {a : Act} {c : Code} {k : List Item} {cs : List Frame} {w : World} :
    step P (lone (b.atR a (.inScope c :: k)) cs w) = .next (lone (b.atR a k) cs w) :=
  step_lone_go (by simp [stepG, stepG.exec, Frame.atR])

theorem finish_range {a : Act} {k : List Item} {l : Nat} {v : Value} : (b.atR a (.inRangeFunc l :: k)).finish v = b.atR a (.endRangeFunc l :: k) := by simp [Frame.finish, Frame.atR]

theorem step_range_end {a : Act} {k : List Item} {cs : List Frame} {w w' : World} {l : Nat} {j : Option Code} (h : (Instr.endLoop l).run P w = .ok j w') :
    step P (lone (b.atR a (.endRangeFunc l :: k)) cs w) = .next (lone (b.atR a ((j.map Item.code).toList ++ k)) cs w') :=
  step_lone_go (by simp [stepG, stepG.exec, Frame.atR, Sem.runT_eq, h, GStep.bare_after])

theorem step_range {a : Act} {k : List Item} {cs : List Frame} {w : World} {g : Operand} {ps : Array Tmp} {as bd : Code} {l : Nat} {mark : List Deferred} {w1 w2 w3 : World} {d : Deferred} {f : FuncId} {args : Array Value}
    (h1 : (Instr.enterLoop b.fn a.tmps ps as bd b.roundOf).run P w = .ok (l, mark) w1) (h2 : (resolve a.eval { callee := .value g, args := #[.const (.func (.yield l) #[] #[])], argTypes := #[] } 0).run P w1 = .ok d w2) (h3 : (invoke d.target d.args).run P w2 = .ok (.enter f args) w3) :
    step P (lone (b.atR a (.code (.rangeFunc g ps as bd) :: k)) cs w) = .next (lone (Frame.enter P f args .normal) (b.atR { a with defers := mark ++ a.defers } (.inRangeFunc l :: k) :: cs) w3) := by
  have hv := Frame.eval_atR b { a with defers := mark ++ a.defers } (.inRangeFunc l :: k)
  simp only [Frame.atR] at hv
  have h2' : Sem.run P (resolve ({ tmps := a.tmps, defers := mark ++ a.defers } : Act).eval { callee := .value g, args := #[.const (.func (.yield l) #[] #[])], argTypes := #[] } 0) w1 = .ok d w2 := h2
  exact step_lone_go (by simp [stepG, stepG.exec, Frame.atR, Sem.runT_eq, h1, GStep.bare_after, stepG.apply, hv, Sem.run_bind, h2', h3, Result.andThen])

theorem runCD_mk (f : Nest → Ex → K → K) (N : Nest) (ex : Ex) (k : K) : runCD (.mk f) N ex k = f N ex k := rfl
theorem evC_loop (fid : FuncId) (kind : CallKind) (x : Code) : evC E fid nt kind (.loop x) = .mk (loopC (evC E fid nt kind x)) := rfl

theorem exit_ok {ex : Ex} {items : List Item} (hex : ExOK P E b fn nt ex items) (id : Nat) : KOK P E b fn nt (exitK ex id) (.code (.exit id) :: items) := by
  intro ρ S w t a ds u cs outs C hd hcs h
  unfold exitK at h
  cases hq : findExit ex.exits id with
  | none => rw [hq] at h; exact hex.leave id items (hex.nowhere id hq) ρ S w t a ds u cs outs C hd hcs h
  | some k' =>
    rw [hq] at h
    obtain ⟨items', e1, e2⟩ := hex.exits id k' hq
    obtain ⟨o, e3, e4⟩ := e2 ρ S w t a ds u cs outs C hd hcs h
    exact ⟨o, e3, e4.of_steps (.one (stepR_exit e1))⟩

theorem jump_ok {ex : Ex} {k : K} {items : List Item} (hex : ExOK P E b fn nt ex items) (hk : KOK P E b fn nt k items) (j : Option Code) : KOK P E b fn nt (jumpK ex k j) ((j.map Item.code).toList ++ items) := by
  unfold jumpK
  split
  · exact hk
  · exact hex.ret items
  · exact exit_ok hex _
  · exact bad_ok

theorem run_enterLoop {fid : FuncId} {tmps : Array Value} {ps : Array Tmp} {as bd : Code} {w : World} :
    (Instr.enterLoop fid tmps ps as bd none).run P w = .ok ((w.heap.push (.deferred (some []))).size, [{ target := .collected w.heap.size, args := #[] }])
      { w with heap := (w.heap.push (.deferred (some []))).push (.loop { state := .ready, pending := none, fn := fid, tmps := tmps, params := ps, assign := as, body := bd, defers := w.heap.size }) } := rfl

theorem run_endLoop {w : World} {l : Nat} {r : Loop} (h : w.heap[l]? = some (.loop r)) (hb : r.state ≠ .busy) :
    (Instr.endLoop l).run P w = .ok r.pending { w with heap := w.heap.setIfInBounds l (.loop { r with state := .exhausted }) } := by
  have hb' : (r.state == .busy) = false := by simpa using hb
  unfold Instr.endLoop Instr.getLoop
  simp only [Sem.run_bind, run_getObj h, Result.andThen_ok, Sem.run_pure, hb', Bool.false_eq_true, if_false, run_setObj h]

theorem mapTurn_loop {o : Option Obj} {r : Loop} : MapTurn o (some (.loop r)) := .inr fun _ _ h => by cases h

theorem range_ok {N : Nest} {ex : Ex} {k : K} {items : List Item} (hN : NestOK P E N) (hex : ExOK P E b fn nt ex items) (hk : KOK P E b fn nt k items) (fO : Operand) (ps : Array Tmp) (as bd : Code) :
    KOK P E b fn nt (rangeC E b.fn nt (ekind b) (srcOf E fO) ps as bd N ex k) (.code (.rangeFunc fO ps as bd) :: items) := by
  intro ρ S w t a ds u cs outs C hd hcs h
  unfold rangeC at h
  cases hearly : isEarly (ekind b) with
  | true => rw [hearly] at h; cases h
  | false =>
    rw [hearly] at h
    have hb0 : b.roundOf = none := by
      cases hq : b.roundOf with
      | none => rfl
      | some l => rw [ekind_some hq] at hearly; cases hearly
    obtain ⟨v, h1, h2, h3⟩ := rd_ok C.glob C.tm h
    split at h3
    · rename_i fn0 first cap
      generalize hq : a.eval fO = cf at h1
      cases h1 with | func hf h5 h6 =>
      rename_i fn' a' c'
      -- the two blocks
      have e1 : Ext ρ S w.heap (ρ.add S.next ⟨w.heap.size, 0, 0⟩) (S.new .deferred).2 (w.heap.push (.deferred (some []))) :=
        Ext.new (N := 0) C.hr (.deferred (by simp)) (fun g hg => by cases hg)
      rw [St.new_eq] at e1 h3
      simp only at e1 h3
      generalize hS1 : (⟨S.heap.set S.next .deferred, S.next + 1, S.grp, S.next :: S.log⟩ : St) = S1 at e1 h3
      generalize hρ1 : ρ.add S.next ⟨w.heap.size, 0, 0⟩ = ρ1 at e1
      have hd1 : ρ1.loc S.next = some ⟨w.heap.size, 0, 0⟩ := by rw [← hρ1]; exact Rho.add_at
      have ht1 : TmR ρ1 nt t a.tmps := C.tm.mono e1.le
      have e2 := Ext.new (N := 0) e1.hr (o := .loop .ready none b.fn nt t ps.toList as bd S.next)
        (X := .loop { state := .ready, pending := none, fn := b.fn, tmps := a.tmps, params := ps, assign := as, body := bd, defers := w.heap.size })
        (.loop (D := ⟨w.heap.size, 0, 0⟩) (by rw [Array.getElem?_push, if_pos rfl]) rfl ((Rho.add_le (e1.hr.next _ (Nat.le_refl _))).1 _ _ hd1) (ht1.mono (Rho.add_le (e1.hr.next _ (Nat.le_refl _))))) (fun g hg => by cases hg)
      rw [St.new_eq] at e2 h3
      simp only at e2 h3
      generalize hS2 : (⟨S1.heap.set S1.next (.loop .ready none b.fn nt t ps.toList as bd S.next), S1.next + 1, S1.grp, S1.next :: S1.log⟩ : St) = S2 at e2 h3
      generalize hl : S1.next = l at e2 h3
      generalize hLb : (w.heap.push (.deferred (some []))).size = Lb at e2
      generalize hρ2 : ρ1.add l ⟨Lb, 0, 0⟩ = ρ2 at e2
      have hl2 : ρ2.loc l = some ⟨Lb, 0, 0⟩ := by rw [← hρ2]; exact Rho.add_at
      have e12 := e1.trans e2
      split at h3
      · rename_i g args hinv
        have C2 : Ctx P E ρ2 S2 { w with heap := (w.heap.push (.deferred (some []))).push (.loop { state := .ready, pending := none, fn := b.fn, tmps := a.tmps, params := ps, assign := as, body := bd, defers := w.heap.size }) } t nt
            { a with defers := { target := .collected w.heap.size, args := #[] } :: a.defers } :=
          ⟨C.env, C.glob.mono e12.le, C.tm.mono e12.le, e12.hr, by rw [e12.le.2]; exact C.facts⟩
        have hy : VR ρ2 (.func (.yield l) [] []) (.func (.yield Lb) #[] #[]) := .func (.yield hl2) .nil .nil
        have hnx := aInvoke_ok C2 hinv (hf.mono e12.le) (h6.mono e12.le) (cargs := a' ++ #[.func (.yield Lb) #[] #[]]) (by rw [Array.toList_append]; exact (h5.mono e12.le).append (.cons hy .nil))
        generalize hrr : (invoke (.fn fn' c') (a' ++ #[.func (.yield Lb) #[] #[]])).run P _ = rr at hnx
        cases hnx with
        | enter hargs =>
          rename_i cargs
          have hen := run_enterLoop (P := P) (fid := b.fn) (tmps := a.tmps) (ps := ps) (as := as) (bd := bd) (w := w)
          rw [hLb] at hen
          have hstep := step_range (P := P) (b := b) (a := a) (k := items) (cs := cs) (w := w) (g := fO) (ps := ps) (as := as) (bd := bd) (l := Lb) (d := { target := .fn fn' c', args := a' ++ #[.func (.yield Lb) #[] #[]] })
            (by rw [hb0]; exact hen) (by
              have hmap : Array.map a.eval #[Operand.const (.func (.yield Lb) #[] #[])] = #[.func (.yield Lb) #[] #[]] := by simp [Act.eval]
              simp only [resolve, hq, Deferred.ofValue, Sem.run_pure, hmap]) hrr
          cases hcall : N.call g args .normal .run S2 with
          | bad q => rw [hcall] at h3; cases h3
          | ok out =>
            rw [hcall] at h3
            obtain ⟨e, u', S3⟩ := out
            obtain ⟨fn2, hf2, hE2⟩ := hN.call g args .normal .run S2 _ ρ2 _ cargs (b.atR { a with defers := [{ target := .collected w.heap.size, args := #[] }] ++ a.defers } (.inRangeFunc Lb :: items) :: cs) hcall C2.env C2.glob C2.hr C2.facts hargs .normal
            obtain ⟨ρ3, w3, fr, cs1, hs, he3, hend, hto, _, hso⟩ := hE2.plain rfl
            cases hto
            have s1 := Steps.head hstep hs
            obtain ⟨q1, q2, q3, q4⟩ := hend
            have hds : DefsR ρ3 (.collected S.next :: ds) ([{ target := .collected w.heap.size, args := #[] }] ++ a.defers) :=
              .cons (.collected (he3.le.1 _ _ (e2.le.1 _ _ hd1))) (hd.mono (e12.le.trans he3.le))
            have e13 := e12.trans he3
            have hso1 : SameOs w w3 := SameOs.trans ⟨rfl, rfl, rfl⟩ hso
            cases e with
            | pan ch =>
              obtain ⟨c, m1, m2⟩ := q4
              have hleave : fr.leaving P w3 (.panicked c) := ⟨m1, q3, fn2, by rw [q1]; exact hf2⟩
              have s2 := s1.trans (.one (step_leave_panicked hleave))
              rw [Frame.raise_atR] at s2
              have h4 : ex.panic ch t (.collected S.next :: ds) u S3 = .ok outs := h3
              obtain ⟨x, hx, hE⟩ := hex.panic ch c ρ3 S3 w3 t { a with defers := [{ target := .collected w.heap.size, args := #[] }] ++ a.defers } (.collected S.next :: ds) u cs outs _ m2
                (C.step (a' := { a with defers := [{ target := .collected w.heap.size, args := #[] }] ++ a.defers }) e13 (C.tm.mono e13.le)) hds (hcs.mono e13.le) h4
              exact ⟨x, hx, (hE.of_steps s2).of_ext e13 hso1 hcs.refl⟩
            | ret v =>
              obtain ⟨m1, c, m2, m3⟩ := q4
              have hleave : fr.leaving P w3 (.returned c) := ⟨m1, q3, q2, fn2, by rw [q1]; exact hf2, m2⟩
              have s2 := s1.trans (.one (step_leave_returned hleave))
              rw [finish_range] at s2
              unfold afterRange at h3
              simp only at h3
              split at h3
              · rename_i st pending fid0 nt0 t0 ps0 as0 bd0 d0 hget
                obtain ⟨L', g1, g2⟩ := he3.hr.objs l _ hget
                have hlL := he3.le.1 _ _ hl2
                rw [hlL] at g1; injection g1 with g1; subst g1
                cases g2 with | loop at_ hp hdd htt =>
                rename_i D a0 ps1
                have hst : st ≠ .busy := by intro e; subst e; cases h3
                have h4 : jumpK ex k pending t (.collected S.next :: ds) u (S3.put l (.loop .exhausted pending fid0 nt0 t0 ps0 as0 bd0 d0)) = .ok outs := by
                  cases st <;> first | exact h3 | exact absurd rfl hst
                have hel := run_endLoop (P := P) at_ hst
                have s3 := s2.trans (.one (step_range_end hel))
                have e4 : Ext ρ3 S3 w3.heap ρ3 (S3.put l (.loop .exhausted pending fid0 nt0 t0 ps0 as0 bd0 d0)) _ :=
                  Ext.put he3.hr hget rfl hlL rfl (.loop (by rw [Array.getElem?_setIfInBounds, if_pos rfl, if_pos (he3.hr.bound _ _ hlL)]) hp hdd htt) rfl (fun _ _ _ _ _ h => by cases h) mapTurn_loop
                have e14 := e13.trans e4
                obtain ⟨x, hx, hE⟩ := jump_ok hex hk pending ρ3 _ { w3 with heap := w3.heap.setIfInBounds Lb (.loop { state := .exhausted, pending := pending, fn := fid0, tmps := a0, params := ps1, assign := as0, body := bd0, defers := D.blk }) } t
                  { a with defers := [{ target := .collected w.heap.size, args := #[] }] ++ a.defers } (.collected S.next :: ds) u cs outs
                  (C.step (a' := { a with defers := [{ target := .collected w.heap.size, args := #[] }] ++ a.defers }) e14 (C.tm.mono e14.le)) hds (hcs.mono e14.le) h4
                exact ⟨x, hx, Ends.of_ext (w1 := { w3 with heap := w3.heap.setIfInBounds Lb (.loop { state := .exhausted, pending := pending, fn := fid0, tmps := a0, params := ps1, assign := as0, body := bd0, defers := D.blk }) }) e14 (hso1.trans ⟨rfl, rfl, rfl⟩) hcs.refl (hE.of_steps s3)⟩
              · cases h3
        | _ => cases hinv
      · cases h3
    · cases h3

theorem evC_ok (hdraw : DrawsOK P E b fn nt) (c : Code) : CDOK P E b fn nt (evC E b.fn nt (ekind b) c) c := by
  induction c with
  | skip => intro N ex k items hN hex hk; exact KOK.step hk fun _ _ _ => stepR_skip
  | region id ops draw =>
    have hev : evC E b.fn nt (ekind b) (.region id ops draw) = (match isEarly (ekind b) && ops.toList.any isDefer with
      | true => .mk (badC "defer in a round")
      | false => match draw with
        | true => .mk (drawC E nt ops.toList)
        | false => .mk (opsC (opsD E nt (ekind b) ops.toList ops.toList))) := rfl
    rw [hev]
    cases hdf : isEarly (ekind b) && ops.toList.any isDefer with
    | true => intro N ex k items hN hex hk; exact bad_ok
    | false =>
      have hR := PlainOps.of_check hdf
      cases draw with
      | false =>
        intro N ex k items hN hex hk
        have := opsD_ok (ops := ops) hR (items := items) hN hex.panic ops.toList 0 k (by simp) (Nat.zero_le _) hk
        rw [Nat.sub_zero, ← List.range_eq_range'] at this
        exact KOK.step this fun _ _ _ => stepR_region
      | true =>
        intro N ex k items hN hex hk ρ S w t a ds u cs outs C hd hcs h
        obtain ⟨o, h1, h2⟩ := hdraw ops N k items hR hN hk ρ S { w with drawn := w.drawn + 1 } t a ds u cs outs (w.tape w.drawn (.order b.fn id)) ⟨C.env, C.glob, C.tm, C.hr, C.facts⟩ hd hcs h
        exact ⟨o, h1, h2.of_steps (.one stepR_region_draw)⟩
  | seq x y ihx ihy =>
    intro N ex k items hN hex hk
    have h2 := ihy N ex k items hN hex hk
    have h1 := ihx N ex _ (.code y :: items) hN (hex.skip fun _ => rfl) h2
    exact KOK.step h1 fun _ _ _ => stepR_seq
  | cond cnd x y ihx ihy =>
    intro N ex k items hN hex hk ρ S w t a ds u cs outs C hd hcs h
    have h' : rd (srcOf E cnd) t (fun v => match v with
      | .bool q => (match q with | true => runCD (evC E b.fn nt (ekind b) x) N ex k t ds u S | false => runCD (evC E b.fn nt (ekind b) y) N ex k t ds u S)
      | _ => .bad "cond") = .ok outs := h
    obtain ⟨v, h1, h2, h3⟩ := rd_ok C.glob C.tm h'
    split at h3
    · rename_i q
      generalize hq : a.eval cnd = cv at h1
      cases h1
      split at h3
      · obtain ⟨o, e1, e2⟩ := ihx N ex k items hN hex hk ρ S w t a ds u cs outs C hd hcs h3
        exact ⟨o, e1, e2.of_steps (.one (stepR_cond (t := true) hq))⟩
      · obtain ⟨o, e1, e2⟩ := ihy N ex k items hN hex hk ρ S w t a ds u cs outs C hd hcs h3
        exact ⟨o, e1, e2.of_steps (.one (stepR_cond (t := false) hq))⟩
    · cases h3
  | block id x ih =>
    intro N ex k items hN hex hk
    have hk' : KOK P E b fn nt k (.inBlock id :: items) := KOK.step hk fun _ _ _ => stepR_inBlock
    have hex' : ExOK P E b fn nt (ex.add id k) (.inBlock id :: items) := by
      obtain ⟨l, lv, pn⟩ := ex
      refine ⟨?_, ?_, hex.ret, hex.leave, hex.panic⟩
      rotate_left
      · intro id' e
        have e' : (match Nat.beq id id' with | true => some k | false => findExit l id') = none := e
        cases hq : Nat.beq id id' with
        | true => rw [hq] at e'; cases e'
        | false =>
          rw [hq] at e'
          have hne := ne_of_nbeq hq
          have : (id == id') = false := by simpa using hne
          simp [exitTo, this, hex.nowhere id' e']
      intro id' k' e
      have e' : (match Nat.beq id id' with | true => some k | false => findExit l id') = some k' := e
      cases hq : Nat.beq id id' with
      | true =>
        rw [hq] at e'
        cases e'
        have := Nat.eq_of_beq_eq_true hq
        subst this
        exact ⟨items, by simp [exitTo], hk⟩
      | false =>
        rw [hq] at e'
        have hne := ne_of_nbeq hq
        obtain ⟨items', e1, e2⟩ := hex.exits id' k' e'
        refine ⟨items', ?_, e2⟩
        have : (id == id') = false := by simpa using hne
        simp [exitTo, this, e1]
    have := ih N (ex.add id k) k (.inBlock id :: items) hN hex' hk'
    exact KOK.step this fun _ _ _ => stepR_block
  | loop x ih =>
    intro N ex k items hN hex hk
    have hex' : ExOK P E b fn nt ex (.inLoop x :: items) := hex.skip fun _ => rfl
    have key : ∀ n, KOK P E b fn nt (loopK (runCD (evC E b.fn nt (ekind b) x) N ex) n) (.inLoop x :: items) := by
      intro n
      induction n with
      | zero => exact bad_ok
      | succ n ihn =>
        have := ih N ex _ (.inLoop x :: items) hN hex' ihn
        exact KOK.step this fun _ _ _ => stepR_inLoop
    have key2 : ∀ n, KOK P E b fn nt (loopK (runCD (evC E b.fn nt (ekind b) x) N ex) n) (.code (.loop x) :: items) := by
      intro n
      cases n with
      | zero => exact bad_ok
      | succ n => exact KOK.step (ih N ex _ (.inLoop x :: items) hN hex' (key n)) fun _ _ _ => stepR_loop
    have e : runCD (evC E b.fn nt (ekind b) (.loop x)) N ex k = loopK (runCD (evC E b.fn nt (ekind b) x) N ex) rounds := by
      rw [evC_loop, runCD_mk, loopC]
    rw [e]
    exact key2 rounds
  | rangeFunc f params assign body _ _ => intro N ex k items hN hex hk; exact range_ok hN hex hk f params assign body
  | exit id => intro N ex k items hN hex hk; exact exit_ok hex id
  | scope x ih =>
    intro N ex k items hN hex hk
    have hk' : KOK P E b fn nt k (.inScope x :: items) := KOK.step hk fun _ _ _ => stepR_inScope
    have := ih N ex k (.inScope x :: items) hN (hex.skip fun _ => rfl) hk'
    exact KOK.step this fun _ _ _ => stepR_scope
  | label l => intro N ex k items hN hex hk; exact KOK.step hk fun _ _ _ => stepR_label
  | goto l => intro N ex k items hN hex hk; exact bad_ok
  | ret => intro N ex k items hN hex hk; exact hex.ret items
  | refuse why => intro N ex k items hN hex hk; exact bad_ok

theorem leave_ok {N : Nest} (hN : NestOK P E N) (hb0 : b.roundOf = none) : RetOK P E b fn nt (leaveK E N fn.results.toList .returning) := by
  intro ρ S w t a ds u cs outs todo C hd hcs h
  have hcs' : CsR ρ b.kind u cs := by have := hcs.1; rw [ekind_none hb0] at this; exact this
  rw [Frame.atR_of_none hb0]
  exact unwind_ok hN hb0 ds a.defers .returning u .returning ρ S w cs outs todo C.env C.glob C.tm C.hr C.facts hd .returning hcs' h

theorem frameEx_ok {N : Nest} (hN : NestOK P E N) (hb0 : b.roundOf = none) : ExOK P E b fn nt (frameEx E N fn.results.toList) [] := by
  refine ⟨(fun id k e => by cases e), fun _ _ => rfl, ?_, (fun id todo _ => bad_ok), ?_⟩
  · intro todo ρ S w t a ds u cs outs C hd hcs h
    obtain ⟨o, e1, e2⟩ := leave_ok hN hb0 ρ S w t a ds u cs outs (.code .ret :: todo) C hd hcs h
    exact ⟨o, e1, e2.of_steps (.one (stepR_ret hb0))⟩
  · intro ch c ρ S w t a ds u cs outs todo hp C hd hcs h
    have hcs' : CsR ρ b.kind u cs := by have := hcs.1; rw [ekind_none hb0] at this; exact this
    rw [Frame.atR_of_none hb0]
    exact unwind_ok hN hb0 ds a.defers (.panicking ch) u (.panicking c) ρ S w cs outs todo C.env C.glob C.tm C.hr C.facts hd (.panicking hp) hcs' h

end

/- A call. -/
theorem enter_ok {P : Program} {E : Env} {N : Nest} (hN : NestOK P E N) (hdraw : ∀ b fn nt, DrawsOK P E b fn nt) {f : FuncId} {args : List AV} {kind : CallKind} {u : AMode} {S : St} {outs : List Out} {ρ : Rho} {w : World} {cargs : Array Value} {cs : List Frame}
    (h : enterA E N f args kind u S = .ok outs) (K : EnvOK P E) (hg : GlobalsAt ρ E.nglob) (H : HR ρ S w.heap) (F : FactsOK E ρ.sig) (ha : VRs ρ args cargs.toList) (hcs : CsR ρ kind u cs) :
    ∃ fn, P.funcs[f]? = some fn ∧ ∃ o ∈ outs, Ends P { (default : Frame) with fn := f, kind := kind } fn ρ S w cs o (lone (Frame.enter P f cargs kind) cs w) := by
  unfold enterA fnD at h
  cases hf : E.funcs.get f with
  | none => rw [hf] at h; cases h
  | some fnn =>
    rw [hf] at h
    simp only at h
    cases hb : fnn.fn.body with
    | none => rw [hb] at h; cases h
    | some c =>
      rw [hb] at h
      simp only at h
      split at h
      · rename_i hle
        have hle' := Nat.le_of_ble_eq_true hle
        obtain ⟨hP, _⟩ := K.funcs f fnn hf
        refine ⟨fnn.fn, hP, ?_⟩
        generalize hbb : ({ (default : Frame) with fn := f, kind := kind } : Frame) = b
        have hbk : b.kind = kind := by rw [← hbb]
        have hlen : cargs.size = args.length := by have := ha.length; simp at this; exact this.symm
        have henter : Frame.enter P f cargs kind = b.atR { tmps := cargs ++ Array.replicate (fnn.fn.ntmps - cargs.size) undef, defers := [] } [.code c] := by
          rw [← hbb]
          simp [Frame.enter, Frame.atR, hP, hb]
          rfl
        rw [henter]
        have hC : Ctx P E ρ S w (T.ofList .nil 0 args) fnn.fn.ntmps { tmps := cargs ++ Array.replicate (fnn.fn.ntmps - cargs.size) undef, defers := [] } := by
          refine ⟨K, hg, ⟨?_, ?_⟩, H, F⟩
          · simp; omega
          · intro i
            rw [T.get_ofList, T.get_nil]
            show VR ρ _ ((cargs ++ Array.replicate (fnn.fn.ntmps - cargs.size) undef).getD i undef)
            by_cases hi : i < args.length
            · rw [if_pos (by omega), Nat.sub_zero]
              have h1 : args[i]? = some args[i] := List.getElem?_eq_getElem hi
              obtain ⟨x, hx, hv⟩ := ha.get h1
              rw [h1, Array.getD_eq_getD_getElem?, Array.getElem?_append_left (by omega)]
              rw [Array.getElem?_toList] at hx
              rw [hx]; exact hv
            · rw [if_neg (by omega)]
              rw [Array.getD_eq_getD_getElem?, Array.getElem?_append_right (by omega)]
              have : ((Array.replicate (fnn.fn.ntmps - cargs.size) undef)[i - cargs.size]?).getD undef = undef := by
                cases hq : (Array.replicate (fnn.fn.ntmps - cargs.size) undef)[i - cargs.size]? with
                | none => rfl
                | some y =>
                  have hm := Array.mem_of_getElem? hq
                  rw [Array.mem_replicate] at hm
                  rw [hm.2]; rfl
              rw [this]; exact .tup .nil
        have hb0 : b.roundOf = none := by rw [← hbb]; rfl
        have hbf : b.fn = f := by rw [← hbb]
        have hret : RetOK P E b fnn.fn fnn.fn.ntmps (leaveK E N fnn.fn.results.toList .returning) := leave_ok hN hb0
        have hk : KOK P E b fnn.fn fnn.fn.ntmps (leaveK E N fnn.fn.results.toList .returning) [] := by
          intro ρ S w t a ds u cs outs C hd hcs h
          obtain ⟨o, e1, e2⟩ := hret ρ S w t a ds u cs outs [] C hd hcs h
          exact ⟨o, e1, e2.of_steps (.one (stepR_end hb0))⟩
        have := evC_ok (hdraw b fnn.fn fnn.fn.ntmps) c N _ _ [] hN (frameEx_ok hN hb0) hk
        rw [ekind_none hb0, hbk, hbf] at this
        exact this ρ S w _ _ [] u cs outs hC .nil (.of_none hb0 (by rw [hbk]; exact hcs)) h
      · cases h

section
variable {P : Program} {E : Env} {b : Frame} {fn : Func} {nt : Nat}

theorem run_beginRound {w : World} {l : Nat} {r : Loop} (h : w.heap[l]? = some (.loop r)) (hr : r.state = .ready) :
    (Instr.beginRound l).run P w = .ok () { w with heap := w.heap.setIfInBounds l (.loop { r with state := .busy }) } := by
  unfold Instr.beginRound Instr.getLoop
  simp only [Sem.run_bind, run_getObj h, Result.andThen_ok, Sem.run_pure, run_setObj h, hr]

theorem run_endRound {w : World} {l : Nat} {r : Loop} (j : Option Code) (h : w.heap[l]? = some (.loop r)) :
    (Instr.endRound l j).run P w = .ok (.bool j.isNone) { w with heap := w.heap.setIfInBounds l (.loop { r with state := if j.isNone then .ready else .done, pending := j }) } := by
  unfold Instr.endRound Instr.getLoop
  simp only [Sem.run_bind, run_getObj h, Result.andThen_ok, Sem.run_pure, run_setObj h]

/- Where the round's loop lies. -/
theorem loop_at {ρ : Rho} {S : St} {h : Array Obj} (H : HR ρ S h) {u : AMode} {cs : List Frame} {blk : Nat} (hb : b.roundOf = some blk) (hcs : CsB ρ b u cs) {st : LoopState} {pd : Option Code} {f : FuncId} {n : Nat} {t0 : T AV} {ps : List Tmp} {as bd : Code} {d : Nat}
    (hget : S.heap.get b.tmps.size = some (.loop st pd f n t0 ps as bd d)) :
    ∃ L D a0 ps1, ρ.loc b.tmps.size = some L ∧ L.blk = blk ∧ ρ.loc d = some D ∧ ps1.toList = ps ∧ TmR ρ n t0 a0 ∧ h[blk]? = some (.loop { state := st, pending := pd, fn := f, tmps := a0, params := ps1, assign := as, body := bd, defers := D.blk }) := by
  obtain ⟨L', g1, g2⟩ := H.objs _ _ hget
  obtain ⟨L, e1, e2⟩ := hcs.2 blk hb
  rw [g1] at e1; injection e1 with e1; subst e1
  cases g2 with | loop at_ hp hdd htt =>
  exact ⟨_, _, _, _, g1, e2, hdd, hp, htt, by rw [← e2]; exact at_⟩

theorem loop_put {ρ : Rho} {S : St} {h : Array Obj} (H : HR ρ S h) {blk l : Nat} {L D : Loc} (hL : ρ.loc l = some L) (hbk : L.blk = blk) {st st' : LoopState} {pd pd' : Option Code} {f : FuncId} {n : Nat} {t0 : T AV} {ps : List Tmp} {as bd : Code} {d : Nat} {a0 : Array Value} {ps1 : Array Tmp}
    (hget : S.heap.get l = some (.loop st pd f n t0 ps as bd d)) (hd : ρ.loc d = some D) (hp : ps1.toList = ps) (ht : TmR ρ n t0 a0) :
    Ext ρ S h ρ (S.put l (.loop st' pd' f n t0 ps as bd d)) (h.setIfInBounds blk (.loop { state := st', pending := pd', fn := f, tmps := a0, params := ps1, assign := as, body := bd, defers := D.blk })) := by
  subst hbk
  exact Ext.put H hget rfl hL rfl (.loop (by rw [Array.getElem?_setIfInBounds, if_pos rfl, if_pos (H.bound _ _ hL)]) hp hd ht) rfl (fun _ _ _ _ _ h => by cases h) mapTurn_loop

theorem endRound_ok {blk : Nat} (hb : b.roundOf = some blk) (j : Option Code) (todo : List Item)
    (hj : j = none ∨ j.isSome = true)
    (hstep : ∀ (a : Act) (c : Frame) (cs : List Frame) (w : World) (v : Value) (w' : World), (Instr.endRound blk j).run P w = .ok v w' → step P (lone (b.atR a todo) (c :: cs) w) = .next (lone (c.finish v) cs w')) :
    KOK P E b fn nt (endRoundK b.tmps.size j) todo := by
  intro ρ S w t a ds u cs outs C hd hcs h
  unfold endRoundK at h
  split at h
  · split at h
    · rename_i st pd f n t0 ps as bd d hget
      have hk := hcs.1
      rw [ekind_some hb] at hk
      cases hk with | early =>
      rename_i c cs
      obtain ⟨L, D, a0, ps1, g1, g2, g3, g4, g5, g6⟩ := loop_at C.hr hb hcs hget
      have hs := hstep a c cs w _ _ (run_endRound j g6)
      cases j with
      | none =>
        simp only at h
        cases h
        refine ⟨_, List.mem_singleton.2 rfl, ρ, { w with heap := w.heap.setIfInBounds blk (.loop { state := .ready, pending := none, fn := f, tmps := a0, params := ps1, assign := as, body := bd, defers := D.blk }) }, loop_put C.hr g1 g2 hget g3 g4 g5, ⟨rfl, rfl, rfl⟩, ?_⟩
        unfold Reach
        rw [hb]
        exact ⟨c, cs, rfl, .bool true, .bool, .one hs⟩
      | some jc =>
        simp only at h
        cases h
        refine ⟨_, List.mem_singleton.2 rfl, ρ, { w with heap := w.heap.setIfInBounds blk (.loop { state := .done, pending := some jc, fn := f, tmps := a0, params := ps1, assign := as, body := bd, defers := D.blk }) }, loop_put C.hr g1 g2 hget g3 g4 g5, ⟨rfl, rfl, rfl⟩, ?_⟩
        unfold Reach
        rw [hb]
        exact ⟨c, cs, rfl, .bool false, .bool, .one hs⟩
    · cases h
  · cases h

theorem panRound_ok {blk : Nat} (hb : b.roundOf = some blk) {fn2 : Func} (hf : P.funcs[b.fn]? = some fn2) : PanOK P E b fn nt panRoundK := by
  intro ch c ρ S w t a ds u cs outs todo hp C hd hcs h
  unfold panRoundK at h
  split at h
  · cases h
    have hk := hcs.1
    rw [ekind_some hb] at hk
    cases hk with | early =>
    rename_i c0 cs
    generalize hda : a.defers = da at hd
    cases hd
    refine ⟨_, List.mem_singleton.2 rfl, ρ, w, Ext.refl C.hr, .refl w, ?_⟩
    unfold Reach
    rw [hb]
    have hleave : ({ b.atR a todo with mode := .panicking c } : Frame).leaving P w (.panicked c) := ⟨rfl, hda, fn2, hf⟩
    exact ⟨c0, cs, rfl, c, hp, .one (step_leave_panicked hleave)⟩
  · cases h

theorem beginRound_ok {blk : Nat} (hb : b.roundOf = some blk) {k : K} {todo : List Item} (hk : KOK P E b fn nt k todo) : KOK P E b fn nt (beginRoundK b.tmps.size k) (.beginRound :: todo) := by
  intro ρ S w t a ds u cs outs C hd hcs h
  unfold beginRoundK at h
  split at h
  · rename_i pd f n t0 ps as bd d hget
    obtain ⟨L, D, a0, ps1, g1, g2, g3, g4, g5, g6⟩ := loop_at C.hr hb hcs hget
    have e : Ext ρ S w.heap ρ (S.put b.tmps.size (.loop .busy pd f n t0 ps as bd d)) ({ w with heap := w.heap.setIfInBounds blk (.loop { state := .busy, pending := pd, fn := f, tmps := a0, params := ps1, assign := as, body := bd, defers := D.blk }) } : World).heap := loop_put C.hr g1 g2 hget g3 g4 g5
    obtain ⟨o, h1, h2⟩ := hk ρ _ { w with heap := w.heap.setIfInBounds blk (.loop { state := .busy, pending := pd, fn := f, tmps := a0, params := ps1, assign := as, body := bd, defers := D.blk }) } t a ds u cs outs (C.step e C.tm) hd hcs h
    exact ⟨o, h1, Ends.of_ext e ⟨rfl, rfl, rfl⟩ hcs.refl (h2.of_steps (.one (stepR_beginRound hb (run_beginRound g6 rfl))))⟩
  · cases h

theorem putAll_ok {ρ : Rho} {nt : Nat} : ∀ {ps : List Tmp} {l : List AV} {c : List Value} {t : T AV} {a : Array Value}, TmR ρ nt t a → VRs ρ l c →
    TmR ρ nt (putAll nt ps l t) ((ps.zip c).foldl (fun tmps x => tmps.setIfInBounds x.1 x.2) a)
  | [], _, _, _, _, h, _ => h
  | _ :: _, [], _, _, _, h, hv => by cases hv; exact h
  | p :: ps, v :: vs, _, t, a, h, hv => by
    cases hv with | cons hv hs =>
    rename_i c cs
    show TmR ρ nt (putAll nt ps vs _) ((ps.zip cs).foldl _ (a.setIfInBounds p c))
    refine putAll_ok ?_ hs
    cases hb : Nat.blt p nt with
    | true => exact h.put hv (by rw [Nat.blt_eq] at hb; exact hb)
    | false =>
      have hge : nt ≤ p := by
        rcases Nat.lt_or_ge p nt with q | q
        · have : Nat.blt p nt = true := by rw [Nat.blt_eq]; exact q
          rw [this] at hb; cases hb
        · exact q
      rw [Array.setIfInBounds_eq_of_size_le (by have := h.size; omega)]
      exact h
end

/- A round. -/
theorem round_ok {P : Program} {E : Env} {N : Nest} (hN : NestOK P E N) (hdraw : ∀ b fn nt, DrawsOK P E b fn nt) {l : Nat} {args : List AV} {S : St} {outs : List Out} {ρ : Rho} {w : World} {cargs : Array Value} {L : Loc} {c : Frame} {cs : List Frame}
    (h : roundA E N l args S = .ok outs) (K : EnvOK P E) (hg : GlobalsAt ρ E.nglob) (H : HR ρ S w.heap) (F : FactsOK E ρ.sig) (ha : VRs ρ args cargs.toList) (hL : ρ.loc l = some L) :
    ∃ fid tmps as bd fn, (Instr.yield L.blk cargs).run P w = .ok (.round L.blk fid tmps as bd) w ∧
      ∃ o ∈ outs, Ends P { (default : Frame) with fn := fid, kind := .normal, roundOf := some L.blk, tmps := Array.replicate l undef } fn ρ S w (c :: cs) o (lone (Frame.round L.blk fid tmps as bd .normal) (c :: cs) w) := by
  unfold roundA at h
  split at h
  · rename_i st pd f nt t0 ps as bd d hget
    split at h
    · rename_i fnn hlen hf
      have hlen' := Nat.eq_of_beq_eq_true hlen
      obtain ⟨hP, _⟩ := K.funcs f _ hf
      obtain ⟨L', g1, g2⟩ := H.objs l _ hget
      rw [hL] at g1; injection g1 with g1; subst g1
      cases g2 with | loop at_ hp hdd htt =>
      rename_i D a0 ps1
      have hsz : cargs.size = ps1.size := by
        have h1 := ha.length
        have h2 : ps1.toList.length = ps.length := by rw [hp]
        simp at h1 h2; omega
      have hy : (Instr.yield L.blk cargs).run P w = .ok (.round L.blk f ((ps1.zip cargs).foldl (fun tmps (x : Tmp × Value) => tmps.setIfInBounds x.1 x.2) a0) as bd) w := by
        unfold Instr.yield Instr.getLoop
        simp only [Sem.run_bind, run_getObj at_, Result.andThen_ok, Sem.run_pure, hsz, ne_eq, not_true_eq_false, if_false]
      refine ⟨f, _, as, bd, fnn.fn, hy, ?_⟩
      generalize hbb : ({ (default : Frame) with fn := f, kind := .normal, roundOf := some L.blk, tmps := Array.replicate l undef } : Frame) = b
      have hb : b.roundOf = some L.blk := by rw [← hbb]
      have hbk : b.kind = .normal := by rw [← hbb]
      have hbf : b.fn = f := by rw [← hbb]
      have hbl : b.tmps.size = l := by rw [← hbb]; simp
      have htm : TmR ρ nt (putAll nt ps args t0) ((ps1.zip cargs).foldl (fun tmps (x : Tmp × Value) => tmps.setIfInBounds x.1 x.2) a0) := by
        rw [← Array.foldl_toList, Array.toList_zip, hp]
        exact putAll_ok htt ha
      generalize (ps1.zip cargs).foldl (fun tmps (x : Tmp × Value) => tmps.setIfInBounds x.1 x.2) a0 = a1 at htm
      have hround : Frame.round L.blk f a1 as bd .normal = b.atR { tmps := a1, defers := [] } [.code as, .beginRound, .code bd] := by
        rw [← hbb]; simp [Frame.round, Frame.atR]
      rw [hround]
      have hcs : CsB ρ b .run (c :: cs) := ⟨by rw [ekind_some hb]; exact .early, fun blk e => ⟨L, by rw [hbl]; exact hL, by rw [hb] at e; injection e⟩⟩
      have hpan : PanOK P E b fnn.fn nt panRoundK := panRound_ok hb (by rw [hbf]; exact hP)
      have hex1 : ExOK P E b fnn.fn nt { exits := [], leave := fun _ _ _ _ _ => .bad "a jump in a round's assignment", panic := panRoundK } [.beginRound, .code bd] :=
        ⟨(fun id k e => by cases e), fun _ _ => rfl, fun _ => bad_ok, fun _ _ _ => bad_ok, hpan⟩
      have hex2 : ExOK P E b fnn.fn nt (roundEx l) [] := by
        refine ⟨(fun id k e => by cases e), fun _ _ => rfl, fun todo => ?_, fun id todo hx => ?_, hpan⟩
        · rw [← hbl]
          exact endRound_ok hb (some .ret) _ (.inr rfl) fun a c cs w v w' hr => stepR_round_ret hb hbk hr
        · rw [← hbl]
          exact endRound_ok hb (some (.exit id)) _ (.inr rfl) fun a c cs w v w' hr => stepR_round_exit hb hbk hx hr
      have hend : KOK P E b fnn.fn nt (endRoundK l none) [] := by
        rw [← hbl]
        exact endRound_ok hb none [] (.inl rfl) fun a c cs w v w' hr => stepR_round_end hb hbk hr
      have hbody := evC_ok (hdraw b fnn.fn nt) bd N (roundEx l) _ [] hN hex2 hend
      have hbeg := beginRound_ok hb hbody
      rw [hbl] at hbeg
      have hass := evC_ok (hdraw b fnn.fn nt) as N _ _ [.beginRound, .code bd] hN hex1 hbeg
      rw [hbf, ekind_some hb] at hass
      exact hass ρ S w _ { tmps := a1, defers := [] } [] .run (c :: cs) outs ⟨K, hg, htm, H, F⟩ .nil hcs h
    · cases h
  · cases h
end Go.Ev
