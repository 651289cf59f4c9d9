/- The row of cellarerlaw42.KnownPrims: for every input true, and the input reads as it did. -/
import Derived.Test.YtogaadmkgamhpaaGreatDoorWalks
import Derived.Test.YtogaadmkgamhpaaGreatDoorFacts
import Derived.ProofKit
import Derived.JoinedOf
import Derived.LaidSub
import Derived.LaidMore
import Derived.OpenShut
import Derived.MakeChecks
import Derived.Lay
import Derived.Stop.Joined
namespace Go.Proofs.YtogaadmkgamhpaaGreatDoor
open Go Go.ChangeShapes Go.WideShapes Go.ChangeAt Go.RowKit

theorem Tryz.own : ownKnob Tryz.prog.godebug = none := by kernel_rfl
theorem powAt : Tryz.prog.globalNamed "internal/strconv.uint64pow10" = some 5 := by kernel_rfl
theorem powType : (Tryz.prog.globals[5]?).map (·.type) = some 366 := by kernel_rfl
theorem powArr : Tryz.prog.underlying 366 = some (.array 20 212) := by kernel_rfl
theorem powElem : Tryz.prog.underlying 212 = some (.int .u64) := by kernel_rfl
theorem cells212 : Tryz.prog.cellsOf 212 = 1 := by kernel_rfl
theorem cells366 : Tryz.prog.cellsOf 366 = 20 := by kernel_rfl

/- What the listed table reads as is what its cells are. -/
theorem cells_of_laid {W : World} (h : laidMetH Tryz.prog Rows.knownPrimsRow.laid W) : ∃ t, W.heap[5]? = some (.cells powC t (0, 0)) := by
  rw [MakeChecks.laidMetH_plain _ _ _ (by kernel_rfl)] at h
  have h1 := h.filter (fun x => x.1 == "internal/strconv.uint64pow10")
  have e : (Rows.knownPrimsRow.laid.filter fun x => x.1 == "internal/strconv.uint64pow10") = [("internal/strconv.uint64pow10", Rows.laid_internal_strconv_uint64pow10)] := by kernel_rfl
  rw [e] at h1
  obtain ⟨ps, ⟨g, t, cs, fuel, p, q, hg, ht, hv, hd, hq, hps⟩, _, hrows⟩ := h1
  obtain rfl := Option.some.inj (powAt.symm.trans hg)
  obtain rfl := Option.some.inj (powType.symm.trans ht)
  obtain ⟨xs, m, rfl, hx, hlen, hn, hel⟩ := DataW.trod_array powArr hd
  rw [cells366] at hlen
  rw [cells212] at hel
  simp only [Prod.mk.injEq] at hx
  have hx1 := hx.1
  unfold Rows.laid_internal_strconv_uint64pow10 at hx1
  injection hx1 with hx1
  have key : ∀ (i : Nat) (n : Int), powC.toList[i]? = some (Value.int .u64 n) → (xs.map (·.1))[i]? = some (DataW.lit (Lit.int .u64 n)) → cs.toList[i]? = some (Value.int .u64 n) := by
    intro i n _ h2
    have hi : i < xs.length := by
      have := (List.getElem?_eq_some_iff.1 h2).1
      simpa using this
    have h3 := hel i (by omega)
    rw [List.getElem?_map] at h2
    cases hxi : xs[i]? with
    | none => rw [hxi] at h2; cases h2
    | some x =>
      rw [hxi] at h2 h3
      obtain ⟨k, e1, e2, _⟩ := DataW.trod_int powElem h3
      subst e2
      have : k = n := by simpa using h2
      subst this
      have := congrArg (·[0]?) e1
      simpa [List.getElem?_take, List.getElem?_drop] using this
  have hcs : cs = powC := by
    apply Array.ext'
    apply List.ext_getElem?
    intro i
    have hl : powC.toList.length = 20 := rfl
    by_cases hi : i < 20
    · have : ∃ n : Int, powC.toList[i]? = some (Value.int .u64 n) ∧ (xs.map (·.1))[i]? = some (DataW.lit (Lit.int .u64 n)) := by
        rw [← hx1]
        have hi2 : i = 0 ∨ i = 1 ∨ i = 2 ∨ i = 3 ∨ i = 4 ∨ i = 5 ∨ i = 6 ∨ i = 7 ∨ i = 8 ∨ i = 9 ∨ i = 10 ∨ i = 11 ∨ i = 12 ∨ i = 13 ∨ i = 14 ∨ i = 15 ∨ i = 16 ∨ i = 17 ∨ i = 18 ∨ i = 19 := by omega
        rcases hi2 with rfl | rfl | rfl | rfl | rfl | rfl | rfl | rfl | rfl | rfl | rfl | rfl | rfl | rfl | rfl | rfl | rfl | rfl | rfl | rfl <;> exact ⟨_, rfl, rfl⟩
      obtain ⟨n, h1, h2⟩ := this
      rw [key i n h1 h2, h1]
    · rw [List.getElem?_eq_none (by omega), List.getElem?_eq_none (by omega)]
  subst hcs
  have hm : MemPlace.cell 5 0 ∈ ps := by
    rw [hps]
    exact List.mem_append_left _ (List.mem_append_left _ (MemPlace.mem_row.2 ⟨0, by decide, rfl⟩))
  obtain ⟨⟨c, t, hc⟩, _⟩ := hrows 5 0 hm
  refine ⟨t, ?_⟩
  have hv2 : (Tryz.prog.globalNamed "internal/strconv.uint64pow10").bind (fun g => match W.heap[g]? with | some (.cells cs _ _) => some cs | _ => none) = some powC := hv
  rw [powAt] at hv2
  simp only [Option.bind_some, hc] at hv2
  rw [hc]; cases hv2; rfl

/- A world that meets the condition. -/
noncomputable def laidWorld (os : Os) : World := World.laidAll Tryz.prog os Rows.knownPrimsRow.laid
theorem laidWorld_met (os : Os) (args : Array Value) : laidMetH Tryz.prog Rows.knownPrimsRow.laid ((laidWorld os).forCall (fun _ _ => 0) ⟨#[], args, []⟩).memory := by
  rw [MakeChecks.laidMetH_plain _ _ _ (by kernel_rfl)]
  exact laidMet_laidAll args (by kernel_rfl) (by kernel_rfl)

set_option maxRecDepth 100000 in
theorem law_lifted (os : Os) (started : os.Started) (H : Type) (enc : TypeId × Value → H) :
    ReturnsInHanded {} Tryz.checked os 3 .any (fun w args => (Rows.knownPrimsSpec.pre enc Tryz.prog Tryz.f3 [] false w args ∧ laidMetH Tryz.prog Rows.knownPrimsRow.laid w) ∧ sizedMet enc Tryz.prog Tryz.f3 (OpenSpec.ofChange Rows.knownPrimsSpec) false w args)
      (Rows.knownPrimsSpec.post enc Tryz.prog Tryz.f3 false true false false) := by
  refine returnsInHanded_of_change_and (C := Tryz.checked) (X := fun w _ => laidMetH Tryz.prog Rows.knownPrimsRow.laid w) (fun _ _ _ hh h => h.of_heap hh) Tryz.own started (by kernel_rfl) Tryz.func3
    (ChangeSpec.witness_at (enc := enc) (C := Tryz.checked) (os := os) (X := fun w _ => laidMetH Tryz.prog Rows.knownPrimsRow.laid w) false (laidWorld os) #[.int .u8 0, .int .i64 0, .int .i64 0] 8 (World.laidAll_os _ _ _) (by kernel_rfl) (by kernel_rfl) (by kernel_rfl) (by kernel_rfl) (by kernel_rfl) (laidWorld_met os _)) ?_
  intro W base args ds gs before hval0 hW _ _ hL _
  have hval : ∀ (j : Nat) t v, Tryz.f3.params[j]? = some t → args[j]? = some v → Value.okWide Tryz.prog W .any base t v := hval0
  have hW' := hW
  obtain ⟨p, q, hA0, hV0, rfl, hfz, hnd⟩ := hW
  have hA : DataW.TrodAll enc Tryz.prog W 0 (fun _ => true) true Tryz.f3.params.toList args.toList ds p := hA0
  have hV : DataW.TrodVars enc Tryz.prog W (fun _ => true) [] gs q := hV0
  rw [Tryz.params3] at hA hval
  obtain ⟨v0, v1, v2, d0, d1, d2, p0, p1, p2, rfl, rfl, hp, h0, h1, h2⟩ := trodAll_three hA
  obtain ⟨o, rfl, rfl, rfl, wo⟩ := open_int Tryz.underlying5 (hval 0 5 v0 rfl rfl) h0
  obtain ⟨a, rfl, rfl, rfl, wa⟩ := open_int Tryz.underlying2 (hval 1 2 v1 rfl rfl) h1
  obtain ⟨b, rfl, rfl, rfl, wb⟩ := open_int Tryz.underlying2 (hval 2 2 v2 rfl rfl) h2
  obtain ⟨t, hcells⟩ := cells_of_laid hL
  obtain ⟨rfl, rfl⟩ : gs = [] ∧ q = [] := by
    cases gs with
    | nil => exact ⟨rfl, hV⟩
    | cons g r => exact absurd hV (by intro h; cases h)
  have bo : 0 ≤ o := by
    have h : IntKind.u8.min ≤ o ∧ o ≤ IntKind.u8.max := by simpa [Lit.wf] using wo
    have i1 : IntKind.u8.min = 0 := by decide
    omega
  have e1 : Rows.knownPrimsSpec.fn H ([.lit (.int .u8 o), .lit (.int .i64 a), .lit (.int .i64 b)] ++ []) = { results := [.lit (.bool true)], args := [.lit (.int .u8 o), .lit (.int .i64 a), .lit (.int .i64 b)] } := by simp [Rows.knownPrimsSpec]
  refine (law_true o a b bo W hcells).mono fun e W' ⟨he, hb⟩ => ?_
  subst he
  refine ⟨_, rfl, _, _, _, [], [], [], hW', ?_, ?_, ?_, hb.frame _, fun h => by cases h⟩
  · rw [e1]; exact trodAll_mk1 (shut_bool Tryz.underlying4 true)
  · rw [e1]; exact trodAll_mk3 (shut_int Tryz.underlying5 wo) (shut_int Tryz.underlying2 wa) (shut_int Tryz.underlying2 wb)
  · rw [e1]; rfl

theorem named3 : Tryz.pinned.checked.prog.funcNamed Rows.knownPrimsRow.func = some 3 := by kernel_rfl

theorem knownPrims_holds : Rows.KnownPrimsSaid :=
  OpenClaim.holds_of_wide 3 Tryz.f3 rfl rfl rfl rfl rfl rfl rfl ⟨rfl, rfl, rfl, rfl, rfl⟩ rfl rfl rfl rfl rfl named3 Tryz.func3 Facts.closed
    (of_decide_eq_true (by kernel_rfl)) (by unfold Func.isWrapper; rw [if_neg (of_decide_eq_false (by kernel_rfl))]; exact ⟨rfl, rfl⟩)
    (fun os started H enc _ => law_lifted os started H enc)
#print axioms knownPrims_holds
end Go.Proofs.YtogaadmkgamhpaaGreatDoor
