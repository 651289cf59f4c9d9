/- Law 25: walks of what its laws call, part 1: small, find, offers, lacks and SameList: each computes what the plain functions named here say. Conditions: the tables lie in memory as the views say, and are small. -/
import Derived.Test.YtdmjlimmllhhoaaGreatDoorProg
import Derived.Handy
import Derived.BigQuiet
import Derived.Deep.RegionWith
import Derived.Deep.RegionHeld3
import Derived.Deep.OwnRows
namespace Go.Proofs.YtdmjlimmllhhoaaGreatDoor
open Go Go.RowKit
set_option maxRecDepth 100000

structure Ent where
  k : Int
  nm : ByteArray
  md : ByteArray
  lf : Int
  tg : Int

structure Tab where
  nm : ByteArray
  im : List ByteArray
  en : List Ent

def StrsAt (w : World) (a : Option Addr) (l : List ByteArray) : Prop :=
  ∀ i (h : i < l.length), ∃ b o, a = some ⟨b, o, none⟩ ∧ w.cell? ⟨b, o + i, none⟩ = some (.string l[i])

def EntsAt (w : World) (a : Option Addr) (l : List Ent) : Prop :=
  ∀ i (h : i < l.length), ∃ b o, a = some ⟨b, o, none⟩ ∧ w.cell? ⟨b, o + i * 5, none⟩ = some (.int .i64 l[i].k) ∧ w.cell? ⟨b, o + i * 5 + 1, none⟩ = some (.string l[i].nm) ∧
    w.cell? ⟨b, o + i * 5 + 2, none⟩ = some (.string l[i].md) ∧ w.cell? ⟨b, o + i * 5 + 3, none⟩ = some (.int .i64 l[i].lf) ∧ w.cell? ⟨b, o + i * 5 + 4, none⟩ = some (.int .i64 l[i].tg)

def TabsAt (w : World) (a : Option Addr) (l : List Tab) : Prop :=
  ∀ i (h : i < l.length), ∃ b o a1 c1 a2 c2, a = some ⟨b, o, none⟩ ∧ w.cell? ⟨b, o + i * 3, none⟩ = some (.string l[i].nm) ∧
    w.cell? ⟨b, o + i * 3 + 1, none⟩ = some (.slice a1 l[i].im.length c1) ∧ StrsAt w a1 l[i].im ∧
    w.cell? ⟨b, o + i * 3 + 2, none⟩ = some (.slice a2 l[i].en.length c2) ∧ EntsAt w a2 l[i].en

theorem cell_lt {w : World} {b o : Nat} {v : Value} (h : w.cell? ⟨b, o, none⟩ = some v) : b < w.heap.size := by
  rcases Nat.lt_or_ge b w.heap.size with q | q
  · exact q
  · unfold World.cell? at h
    rw [Array.getElem?_eq_none (by simpa using q)] at h; simp at h

theorem cell_below {w w' : World} {n b o : Nat} {v : Value} (hb : Below n w w') (hn : w.heap.size ≤ n) (h : w.cell? ⟨b, o, none⟩ = some v) : w'.cell? ⟨b, o, none⟩ = some v :=
  (hb.cell (show b < n from Nat.lt_of_lt_of_le (cell_lt h) hn)).trans h

theorem StrsAt.below {w w' : World} {n : Nat} {a : Option Addr} {l : List ByteArray} (hb : Below n w w') (hn : w.heap.size ≤ n) (h : StrsAt w a l) : StrsAt w' a l := by
  intro i hi
  obtain ⟨b, o, e, h1⟩ := h i hi
  exact ⟨b, o, e, cell_below hb hn h1⟩

theorem EntsAt.below {w w' : World} {n : Nat} {a : Option Addr} {l : List Ent} (hb : Below n w w') (hn : w.heap.size ≤ n) (h : EntsAt w a l) : EntsAt w' a l := by
  intro i hi
  obtain ⟨b, o, e, h1, h2, h3, h4, h5⟩ := h i hi
  exact ⟨b, o, e, cell_below hb hn h1, cell_below hb hn h2, cell_below hb hn h3, cell_below hb hn h4, cell_below hb hn h5⟩

theorem TabsAt.below {w w' : World} {n : Nat} {a : Option Addr} {l : List Tab} (hb : Below n w w') (hn : w.heap.size ≤ n) (h : TabsAt w a l) : TabsAt w' a l := by
  intro i hi
  obtain ⟨b, o, a1, c1, a2, c2, e, h1, h2, h3, h4, h5⟩ := h i hi
  exact ⟨b, o, a1, c1, a2, c2, e, cell_below hb hn h1, cell_below hb hn h2, h3.below hb hn, cell_below hb hn h4, h5.below hb hn⟩

/- The first table with a name. -/
def ixOf (l : List Tab) (s : ByteArray) : Option Nat := l.findIdx? (fun t => t.nm.toList == s.toList)

def findI (l : List Tab) (s : ByteArray) : Int := match ixOf l s with | some j => (j : Int) | none => -1

theorem ixOf_some {l : List Tab} {s : ByteArray} {k : Nat} (hk : k < l.length) (h : (l[k].nm.toList == s.toList) = true) (hn : ∀ j (hj : j < l.length), j < k → (l[j].nm.toList == s.toList) = false) : ixOf l s = some k := by
  unfold ixOf
  rw [List.findIdx?_eq_some_iff_getElem]
  exact ⟨hk, h, fun j hj => by rw [hn j (by omega) hj]; simp⟩

theorem ixOf_none {l : List Tab} {s : ByteArray} (hn : ∀ j (hj : j < l.length), (l[j].nm.toList == s.toList) = false) : ixOf l s = none := by
  unfold ixOf
  rw [List.findIdx?_eq_none_iff]
  intro x hx
  obtain ⟨j, hj, rfl⟩ := List.getElem_of_mem hx
  exact hn j hj

theorem ixOf_lt {l : List Tab} {s : ByteArray} {k : Nat} (h : ixOf l s = some k) : k < l.length := by
  unfold ixOf at h
  rw [List.findIdx?_eq_some_iff_getElem] at h
  exact h.1

theorem findI_some {l : List Tab} {s : ByteArray} {k : Nat} (h : ixOf l s = some k) : findI l s = k := by unfold findI; rw [h]
theorem findI_none {l : List Tab} {s : ByteArray} (h : ixOf l s = none) : findI l s = -1 := by unfold findI; rw [h]

theorem find20 (l : List Tab) (s : ByteArray) (a : Option Addr) (cap : Nat) (w : World) (hl : l.length ≤ 10) (h : TabsAt w a l) :
    Calls Tryz.prog 20 #[.slice a l.length cap, .string s] w fun e w' => e = .returned (.int .i64 (findI l s)) ∧ w' = w := by
  go_enter Tryz.func20, Tryz.ntmps20
  go_wp2
  go_loop [5] (fun i => ∃ k : Nat, k ≤ l.length ∧ i = .int .i64 k ∧ ∀ j (hj : j < l.length), j < k → (l[j].nm.toList == s.toList) = false)
    (fun i => l.length - (intOf i).toNat)
  case atStart => exact ⟨0, Nat.zero_le _, rfl, fun j _ hj => absurd hj (Nat.not_lt_zero _)⟩
  case round =>
    obtain ⟨k, hk, rfl, hn⟩ := hrel
    by_cases hk2 : k < l.length
    · obtain ⟨b, o, a1, c1, a2, c2, rfl, h1, h2, h3, h4, h5⟩ := h k hk2
      clear h
      go_wp2
      · have hq : (l[k].nm.toList == s.toList) = true := by assumption
        go_ret
        refine ⟨?_, rfl⟩
        rw [findI_some (ixOf_some hk2 hq hn)]; rfl
      · have hq : (l[k].nm.toList == s.toList) = false := by assumption
        go_round
        case rel => exact ⟨k + 1, by omega, by go_num, fun j hj hjk => by
          rcases Nat.lt_succ_iff_lt_or_eq.1 hjk with q | q
          · exact hn j hj q
          · subst q; exact hq⟩
        case measure => simp [intOf]; omega
    · go_wp2
      go_ret
      refine ⟨?_, rfl⟩
      rw [findI_none (ixOf_none fun j hj => hn j hj (by omega))]; rfl

/- The tables are small. -/
def smallT (t : Tab) : Bool := !(decide (12 < t.im.length) || decide (60 < t.en.length))
def smallB (l : List Tab) : Bool := !(decide (10 < l.length)) && l.all smallT

theorem smallB_false {l : List Tab} {k : Nat} (hk : k < l.length) (h : smallT l[k] = false) : smallB l = false := by
  unfold smallB
  rw [Bool.and_eq_false_iff]
  right
  rw [List.all_eq_false]
  exact ⟨l[k], List.getElem_mem hk, by rw [h]; simp⟩

theorem small6 (l : List Tab) (a : Option Addr) (cap : Nat) (w : World) (hl : l.length ≤ 9223372036854775807) (h : TabsAt w a l) :
    Calls Tryz.prog 6 #[.slice a l.length cap] w fun e w' => e = .returned (.bool (smallB l)) ∧ w' = w := by
  go_enter Tryz.func6, Tryz.ntmps6
  by_cases hten : 10 < l.length
  · go_wp2
    go_ret
    exact ⟨by simp [smallB, hten], rfl⟩
  · go_wp2
    go_loop [3] (fun i => ∃ k : Nat, k ≤ l.length ∧ i = .int .i64 k ∧ ∀ j (hj : j < l.length), j < k → smallT l[j] = true)
      (fun i => l.length - (intOf i).toNat)
    case atStart => exact ⟨0, Nat.zero_le _, rfl, fun j _ hj => absurd hj (Nat.not_lt_zero _)⟩
    case round =>
      obtain ⟨k, hk, rfl, hn⟩ := hrel
      by_cases hk2 : k < l.length
      · obtain ⟨b, o, a1, c1, a2, c2, rfl, h1, h2, h3, h4, h5⟩ := h k hk2
        clear h
        have hrel : ∀ {n : Nat}, n = k + 1 → smallT l[k] = true → ∀ j (hj : j < l.length), j < n → smallT l[j] = true := fun e hq j hj hjk => by
          subst e
          rcases Nat.lt_succ_iff_lt_or_eq.1 hjk with q | q
          · exact hn j hj q
          · subst q; exact hq
        by_cases q1 : 12 < l[k].im.length
        · go_wp2
          go_ret
          refine ⟨?_, rfl⟩
          rw [smallB_false hk2 (by simp [smallT, q1])]; rfl
        · by_cases q2 : 60 < l[k].en.length
          · go_wp2
            go_ret
            refine ⟨?_, rfl⟩
            rw [smallB_false hk2 (by simp [smallT, q2])]; rfl
          · go_wp2
            go_round
            case rel => exact ⟨k + 1, by omega, by go_num, hrel rfl (by simp only [smallT, q1, q2, decide_false]; rfl)⟩
            case measure => simp [intOf]; omega
      · go_wp2
        go_ret
        refine ⟨?_, rfl⟩
        have : l.all smallT = true := by
          rw [List.all_eq_true]
          intro x hx
          obtain ⟨j, hj, rfl⟩ := List.getElem_of_mem hx
          exact hn j hj (by omega)
        simp [smallB, hten, this]
end Go.Proofs.YtdmjlimmllhhoaaGreatDoor

namespace Go.Proofs.YtdmjlimmllhhoaaGreatDoor
open Go Go.RowKit
set_option maxRecDepth 100000

def IntsAt (w : World) (a : Option Addr) (l : List Int) : Prop :=
  ∀ i (h : i < l.length), ∃ b o, a = some ⟨b, o, none⟩ ∧ w.cell? ⟨b, o + i, none⟩ = some (.int .i64 l[i])

theorem IntsAt.below {w w' : World} {n : Nat} {a : Option Addr} {l : List Int} (hb : Below n w w') (hn : w.heap.size ≤ n) (h : IntsAt w a l) : IntsAt w' a l := by
  intro i hi
  obtain ⟨b, o, e, h1⟩ := h i hi
  exact ⟨b, o, e, cell_below hb hn h1⟩

theorem same10 (l : List Int) (a a' : Option Addr) (cap cap' : Nat) (w : World) (hl : l.length ≤ 10) (h : IntsAt w a l) (h' : IntsAt w a' l) :
    Calls Tryz.prog 10 #[.slice a l.length cap, .slice a' l.length cap'] w fun e w' => e = .returned (.bool true) ∧ Below w.heap.size w w' := by
  go_enter Tryz.func10, Tryz.ntmps10
  go_wp2
  go_loopw [5] (fun i wr => ∃ k : Nat, k ≤ l.length ∧ i = .int .i64 k ∧ Below w.heap.size w wr)
    (fun i _ => l.length - (intOf i).toNat)
  case atStart => exact ⟨0, Nat.zero_le _, rfl, Below.refl _ _⟩
  case round =>
    obtain ⟨k, hk, rfl, hb⟩ := hrel
    by_cases hk2 : k < l.length
    · obtain ⟨b, o, rfl, h1⟩ := h.below hb (Nat.le_refl _) k hk2
      obtain ⟨b', o', rfl, h1'⟩ := h'.below hb (Nat.le_refl _) k hk2
      clear h h'
      go_wp2
      go_quiet (fail)
      go_wp2
      go_roundw
      case rel => exact ⟨k + 1, by omega, by go_num, hb.trans ⟨rfl, rfl, rfl, Nat.le_refl _, fun _ _ => rfl⟩⟩
      case measure => simp [intOf]; omega
    · go_wp2
      go_ret
      exact ⟨rfl, hb⟩

def offersB (t : Tab) (s : ByteArray) : Bool := t.en.any fun e => e.k == 3 && e.nm.toList == s.toList

theorem offersB_true {t : Tab} {s : ByteArray} {k : Nat} (hk : k < t.en.length) (h : (t.en[k].k == 3 && t.en[k].nm.toList == s.toList) = true) : offersB t s = true := by
  unfold offersB
  rw [List.any_eq_true]
  exact ⟨_, List.getElem_mem hk, h⟩

theorem offersB_false {t : Tab} {s : ByteArray} (h : ∀ j (hj : j < t.en.length), (t.en[j].k == 3 && t.en[j].nm.toList == s.toList) = false) : offersB t s = false := by
  unfold offersB
  rw [List.any_eq_false]
  intro x hx
  obtain ⟨j, hj, rfl⟩ := List.getElem_of_mem hx
  rw [h j hj]; simp

theorem offers29 (t : Tab) (s : ByteArray) (a1 a2 : Option Addr) (c1 c2 : Nat) (w : World) (hl : t.en.length ≤ 60) (h : EntsAt w a2 t.en) :
    Calls Tryz.prog 29 #[.agg #[.string t.nm, .slice a1 t.im.length c1, .slice a2 t.en.length c2], .string s] w fun e w' => e = .returned (.bool (offersB t s)) ∧ Below w.heap.size w w' := by
  go_enter Tryz.func29, Tryz.ntmps29
  go_wp2
  go_loop [5] (fun i => ∃ k : Nat, k ≤ t.en.length ∧ i = .int .i64 k ∧ ∀ j (hj : j < t.en.length), j < k → (t.en[j].k == 3 && t.en[j].nm.toList == s.toList) = false)
    (fun i => t.en.length - (intOf i).toNat)
  case atStart => exact ⟨0, Nat.zero_le _, rfl, fun j _ hj => absurd hj (Nat.not_lt_zero _)⟩
  case round =>
    obtain ⟨k, hk, rfl, hn⟩ := hrel
    by_cases hk2 : k < t.en.length
    · obtain ⟨b, o, rfl, h1, h2, h3, h4, h5⟩ := (h.below ((Below.refl _ _).alloc (Nat.le_refl _) (Obj.cells #[Value.string t.nm, Value.slice a1 t.im.length c1, Value.slice a2 t.en.length c2] 38)) (Nat.le_refl _)) k hk2
      have hrel : ∀ {n : Nat}, n = k + 1 → (t.en[k].k == 3 && t.en[k].nm.toList == s.toList) = false → ∀ j (hj : j < t.en.length), j < n → (t.en[j].k == 3 && t.en[j].nm.toList == s.toList) = false := fun e hq j hj hjk => by
        subst e
        rcases Nat.lt_succ_iff_lt_or_eq.1 hjk with q | q
        · exact hn j hj q
        · subst q; exact hq
      have hB : Below w.heap.size w (w.alloc (Obj.cells #[Value.string t.nm, Value.slice a1 t.im.length c1, Value.slice (some ⟨b, o, none⟩) t.en.length c2] 38)) := (Below.refl _ _).alloc (Nat.le_refl _) _
      by_cases q : t.en[k].k = 3
      · go_wp2
        · have hq : (t.en[k].nm.toList == s.toList) = true := by assumption
          go_ret
          exact ⟨by rw [offersB_true hk2 (by rw [q, hq]; rfl)]; rfl, hB⟩
        · have hq : (t.en[k].nm.toList == s.toList) = false := by assumption
          go_round
          case rel => exact ⟨k + 1, by omega, by go_num, hrel rfl (by rw [hq]; simp)⟩
          case measure => simp [intOf]; omega
      · go_wp2
        go_round
        case rel => exact ⟨k + 1, by omega, by go_num, hrel rfl (by simp [q])⟩
        case measure => simp [intOf]; omega
    · go_wp2
      go_ret
      exact ⟨by rw [offersB_false fun j hj => hn j hj (by omega)]; rfl, (Below.refl _ _).alloc (Nat.le_refl _) _⟩
end Go.Proofs.YtdmjlimmllhhoaaGreatDoor

namespace Go.Proofs.YtdmjlimmllhhoaaGreatDoor
open Go Go.RowKit
set_option maxRecDepth 100000

def badE (l : List Tab) (e : Ent) : Bool := e.k == 4 && (match ixOf l e.md with | none => true | some m => match l[m]? with | some t => !offersB t e.nm | none => true)
def lacksB (l : List Tab) (t : Tab) : Bool := t.im.any (fun m => (ixOf l m).isNone) || t.en.any (badE l)

theorem lacksB_im {l : List Tab} {t : Tab} {k : Nat} (hk : k < t.im.length) (h : ixOf l t.im[k] = none) : lacksB l t = true := by
  unfold lacksB
  rw [Bool.or_eq_true]
  left
  rw [List.any_eq_true]
  exact ⟨_, List.getElem_mem hk, by rw [h]; rfl⟩

theorem lacksB_en {l : List Tab} {t : Tab} {k : Nat} (hk : k < t.en.length) (h : badE l t.en[k] = true) : lacksB l t = true := by
  unfold lacksB
  rw [Bool.or_eq_true]
  right
  rw [List.any_eq_true]
  exact ⟨_, List.getElem_mem hk, h⟩

theorem lacksB_false {l : List Tab} {t : Tab} (h1 : ∀ j (hj : j < t.im.length), ixOf l t.im[j] ≠ none) (h2 : ∀ j (hj : j < t.en.length), badE l t.en[j] = false) : lacksB l t = false := by
  unfold lacksB
  rw [Bool.or_eq_false_iff]
  constructor
  · rw [List.any_eq_false]
    intro x hx
    obtain ⟨j, hj, rfl⟩ := List.getElem_of_mem hx
    cases hq : ixOf l t.im[j] with
    | none => exact absurd hq (h1 j hj)
    | some y => simp
  · rw [List.any_eq_false]
    intro x hx
    obtain ⟨j, hj, rfl⟩ := List.getElem_of_mem hx
    rw [h2 j hj]; simp

theorem lacks21 (l : List Tab) (i : Nat) (hi : i < l.length) (a : Option Addr) (cap : Nat) (w : World) (hl : l.length ≤ 10) (hs : ∀ j (hj : j < l.length), l[j].im.length ≤ 12 ∧ l[j].en.length ≤ 60) (h : TabsAt w a l) :
    Calls Tryz.prog 21 #[.slice a l.length cap, .int .i64 i] w fun e w' => e = .returned (.bool (lacksB l l[i])) ∧ Below w.heap.size w w' := by
  obtain ⟨b, o, a1, c1, a2, c2, rfl, h1, h2, h3, h4, h5⟩ := h i hi
  obtain ⟨z1, z2⟩ := hs i hi
  go_enter Tryz.func21, Tryz.ntmps21
  go_wp2
  go_loop [5] (fun q => ∃ k : Nat, k ≤ l[i].im.length ∧ q = .int .i64 k ∧ ∀ j (hj : j < l[i].im.length), j < k → ixOf l l[i].im[j] ≠ none)
    (fun q => l[i].im.length - (intOf q).toNat)
  case atStart => exact ⟨0, Nat.zero_le _, rfl, fun j _ hj => absurd hj (Nat.not_lt_zero _)⟩
  case round =>
    obtain ⟨k, hk, rfl, hn⟩ := hrel
    by_cases hk2 : k < l[i].im.length
    · obtain ⟨b1, o1, rfl, g1⟩ := h3 k hk2
      have H : Hid (TabsAt w (some ⟨b, o, none⟩) l) := h
      clear h h3
      cases hq : ixOf l l[i].im[k] with
      | none =>
        have hf := findI_none hq
        go_wp2_with (first | (go_at_call 20; refine (find20 l _ _ _ _ hl H.out).mono ?_; rintro e w' ⟨rfl, rfl⟩; rw [hf]) | go_in)
        go_ret
        exact ⟨by rw [lacksB_im hk2 hq]; rfl, Below.refl _ _⟩
      | some m =>
        have hf := findI_some hq
        go_wp2_with (first | (go_at_call 20; refine (find20 l _ _ _ _ hl H.out).mono ?_; rintro e w' ⟨rfl, rfl⟩; rw [hf]) | go_in)
        go_round
        case rel => exact ⟨k + 1, by omega, by go_num, fun j hj hjk => by
          rcases Nat.lt_succ_iff_lt_or_eq.1 hjk with q | q
          · exact hn j hj q
          · subst q; rw [hq]; simp⟩
        case measure => simp [intOf]; omega
    · have hn' : ∀ j (hj : j < l[i].im.length), ixOf l l[i].im[j] ≠ none := fun j hj => hn j hj (by omega)
      clear hn
      go_wp2
      go_loopw [6] (fun q wr => ∃ k : Nat, k ≤ l[i].en.length ∧ q = .int .i64 k ∧ (∀ j (hj : j < l[i].en.length), j < k → badE l l[i].en[j] = false) ∧ Below w.heap.size w wr)
        (fun q _ => l[i].en.length - (intOf q).toNat)
      case atStart => exact ⟨0, Nat.zero_le _, rfl, fun j _ hj => absurd hj (Nat.not_lt_zero _), Below.refl _ _⟩
      case round =>
        obtain ⟨k, hk, rfl, hn, hb⟩ := hrel
        have c1' := cell_below hb (Nat.le_refl _) h2
        have c2' := cell_below hb (Nat.le_refl _) h4
        have hsz := hb.size
        by_cases hk2 : k < l[i].en.length
        · obtain ⟨b1, o1, rfl, g1, g2, g3, g4, g5⟩ := h5.below hb (Nat.le_refl _) k hk2
          have H : Hid (TabsAt w (some ⟨b, o, none⟩) l) := h
          clear h h3 h5
          by_cases q4 : l[i].en[k].k = 4
          · cases hq : ixOf l l[i].en[k].md with
            | none =>
              have hf := findI_none hq
              go_wp2_with (first | (go_at_call 20; refine (find20 l _ _ _ _ hl (H.out.below (n := w.heap.size) (by go_grown) (Nat.le_refl _))).mono ?_; rintro e w' ⟨rfl, rfl⟩; rw [hf]) | go_in)
              go_quiet (fail)
              go_wp2
              go_ret
              exact ⟨by rw [lacksB_en hk2 (by unfold badE; rw [q4, hq]; rfl)]; rfl, Below.trans (b := wr.alloc _) (by go_grown) ⟨rfl, rfl, rfl, Nat.le_refl _, fun _ _ => rfl⟩⟩
            | some m =>
              have hf := findI_some hq
              have hm := ixOf_lt hq
              obtain ⟨b2, o2, a3, c3, a4, c4, e2, t1, t2, t3, t4, t5⟩ := H.out m hm
              cases e2
              obtain ⟨z3, z4⟩ := hs m hm
              have t1' := cell_below hb (Nat.le_refl _) t1
              have t2' := cell_below hb (Nat.le_refl _) t2
              have t4' := cell_below hb (Nat.le_refl _) t4
              have hd : decide ((m : Int) < 0) = false := by simp
              go_wp2_with (first | (go_at_call 20; refine (find20 l _ _ _ _ hl (H.out.below (n := w.heap.size) (by go_grown) (Nat.le_refl _))).mono ?_; rintro e w' ⟨rfl, rfl⟩; rw [hf]) | go_in)
              generalize hW : (wr.alloc (Obj.cells #[Value.int IntKind.i64 4, Value.string l[i].en[k].nm, Value.string l[i].en[k].md, Value.int IntKind.i64 l[i].en[k].lf, Value.int IntKind.i64 l[i].en[k].tg] 81)) = W
              have hbW : Below w.heap.size w W := by rw [← hW]; go_grown
              have x1 : W.cell? ⟨wr.heap.size, 1, none⟩ = some (.string l[i].en[k].nm) := by rw [← hW]; simp
              have y1 := cell_below hbW (Nat.le_refl _) t1
              have y2 := cell_below hbW (Nat.le_refl _) t2
              have y4 := cell_below hbW (Nat.le_refl _) t4
              have HE : Hid (EntsAt w a4 l[m].en) := t5
              clear hW t1 t2 t4 t1' t2' t4'
              go_region_held3 (fun w' => Below w.heap.size w w' ∧ w'.cell? ⟨wr.heap.size, 1, none⟩ = some (.string l[i].en[k].nm) ∧ w'.cell? ⟨b, o + m * 3, none⟩ = some (.string l[m].nm) ∧ w'.cell? ⟨b, o + m * 3 + 1, none⟩ = some (.slice a3 l[m].im.length c3) ∧ w'.cell? ⟨b, o + m * 3 + 2, none⟩ = some (.slice a4 l[m].en.length c4)) (first | exact ⟨hbW.drew, x1, y1, y2, y4⟩ | assumption | (obtain ⟨q1, q2, q3, q4', q5⟩ := ‹Below w.heap.size w _ ∧ _ ∧ _ ∧ _ ∧ _›; exact ⟨q1.trans (hb2.mono q1.size), cell_below hb2 (Nat.le_refl _) q2, cell_below hb2 (Nat.le_refl _) q3, cell_below hb2 (Nat.le_refl _) q4', cell_below hb2 (Nat.le_refl _) q5⟩)) (first | (go_at_call 29; refine (offers29 l[m] _ _ _ _ _ _ z4 (HE.out.below (‹Below w.heap.size w _ ∧ _›).1 (Nat.le_refl _))).mono ?_; rintro e w' ⟨rfl, hb2⟩))
              cases hof : offersB l[m] l[i].en[k].nm with
              | true =>
                have hbad : badE l l[i].en[k] = false := by simp only [badE, hq, List.getElem?_eq_getElem hm, hof]; simp
                go_wp2
                go_roundw
                case rel => exact ⟨k + 1, by omega, by go_num, fun j hj hjk => by
                  rcases Nat.lt_succ_iff_lt_or_eq.1 hjk with q | q
                  · exact hn j hj q
                  · subst q; exact hbad, (‹Below w.heap.size w _ ∧ _›).1⟩
                case measure => simp [intOf]; omega
              | false =>
                have hbad : badE l l[i].en[k] = true := by simp only [badE, hq, List.getElem?_eq_getElem hm, hof, q4]; simp
                go_wp2
                go_ret
                exact ⟨by rw [lacksB_en hk2 hbad]; rfl, (‹Below w.heap.size w _ ∧ _›).1⟩
          · have hbad : badE l l[i].en[k] = false := by simp [badE, q4]
            go_wp2
            go_roundw
            case rel => exact ⟨k + 1, by omega, by go_num, fun j hj hjk => by
              rcases Nat.lt_succ_iff_lt_or_eq.1 hjk with q | q
              · exact hn j hj q
              · subst q; exact hbad, by go_grown⟩
            case measure => simp [intOf]; omega
        · go_wp2
          go_ret
          exact ⟨by rw [lacksB_false hn' fun j hj => hn j hj (by omega)]; rfl, hb⟩
end Go.Proofs.YtdmjlimmllhhoaaGreatDoor

namespace Go.Proofs.YtdmjlimmllhhoaaGreatDoor
open Go Go.RowKit
set_option maxRecDepth 100000

def noTab : Tab := ⟨.empty, [], []⟩
def tabAt (l : List Tab) (i : Nat) : Tab := l.getD i noTab

theorem tabAt_eq {l : List Tab} {i : Nat} (h : i < l.length) : tabAt l i = l[i] := by
  unfold tabAt
  rw [List.getD_eq_getElem?_getD, List.getElem?_eq_getElem h]; rfl

/- Is a name's table taken? -/
def tkB (l : List Tab) (tk : List Bool) (m : ByteArray) : Bool := match ixOf l m with | some j => tk.getD j false | none => false
def readyB (l : List Tab) (tk : List Bool) (t : Tab) : Bool := t.im.all (tkB l tk)
def untB (tk : List Bool) (j : Nat) : Bool := !(tk.getD j false)
def nextB (l : List Tab) (tk : List Bool) (j : Nat) : Bool := untB tk j && readyB l tk (tabAt l j)
def optI : Option Nat → Int | some j => (j : Int) | none => -1

def ordGo (l : List Tab) : Nat → List Bool → List Nat → List Nat × Int × Int
  | 0, _, out => (out, 0, 0)
  | f + 1, tk, out =>
    match (List.range l.length).find? (nextB l tk) with
    | none => ([], optI ((List.range l.length).find? (untB tk)), 20)
    | some i => ordGo l f (tk.set i true) (out ++ [i])

def dupB (l : List Tab) (i : Nat) : Bool := decide (findI l (tabAt l i).nm < i)

def ordOf (l : List Tab) : List Nat × Int × Int :=
  match (List.range l.length).find? (dupB l) with
  | some i => ([], i, 8)
  | none => match (List.range l.length).find? (fun i => lacksB l (tabAt l i)) with
    | some i => ([], i, 9)
    | none => ordGo l l.length (List.replicate l.length false) []

theorem find_succ (p : Nat → Bool) (k : Nat) : (List.range (k + 1)).find? p = match (List.range k).find? p with | some j => some j | none => if p k then some k else none := by
  rw [List.range_succ, List.find?_append]
  cases (List.range k).find? p with
  | some j => rfl
  | none => cases h : p k <;> simp [h]

theorem find_none {p : Nat → Bool} {n : Nat} (h : ∀ j, j < n → p j = false) : (List.range n).find? p = none := by
  rw [List.find?_eq_none]
  intro x hx
  rw [h x (List.mem_range.1 hx)]; simp

theorem find_some {p : Nat → Bool} {n k : Nat} (hk : k < n) (hp : p k = true) (h : ∀ j, j < k → p j = false) : (List.range n).find? p = some k := by
  rw [List.find?_range_eq_some]
  exact ⟨hp, List.mem_range.2 hk, fun j hj => by rw [h j hj]; rfl⟩

theorem find_prop {p : Nat → Bool} {n k : Nat} (h : (List.range n).find? p = some k) : k < n ∧ p k = true := by
  have := List.find?_range_eq_some.1 h
  exact ⟨List.mem_range.1 this.2.1, this.1⟩

theorem ordOf_dup {l : List Tab} {k : Nat} (hk : k < l.length) (hp : dupB l k = true) (h : ∀ j, j < k → dupB l j = false) : ordOf l = ([], (k : Int), 8) := by
  unfold ordOf
  rw [find_some hk hp h]

theorem ordOf_lack {l : List Tab} {k : Nat} (h0 : ∀ j, j < l.length → dupB l j = false) (hk : k < l.length) (hp : lacksB l (tabAt l k) = true) (h : ∀ j, j < k → lacksB l (tabAt l j) = false) : ordOf l = ([], (k : Int), 9) := by
  unfold ordOf
  rw [find_none h0, find_some (p := fun i => lacksB l (tabAt l i)) hk hp h]

theorem ordOf_go {l : List Tab} (h0 : ∀ j, j < l.length → dupB l j = false) (h : ∀ j, j < l.length → lacksB l (tabAt l j) = false) : ordOf l = ordGo l l.length (List.replicate l.length false) [] := by
  unfold ordOf
  rw [find_none h0, find_none (p := fun i => lacksB l (tabAt l i)) h]

theorem ready_succ {l : List Tab} {tk : List Bool} {im : List ByteArray} {k : Nat} (hk : k < im.length) : (im.take (k + 1)).all (tkB l tk) = ((im.take k).all (tkB l tk) && tkB l tk im[k]) := by
  rw [List.take_succ_eq_append_getElem hk, List.all_append]
  simp

theorem lacksB_names {l : List Tab} {t : Tab} (h : lacksB l t = false) : ∀ j (hj : j < t.im.length), ∃ m, ixOf l t.im[j] = some m := by
  intro j hj
  cases hq : ixOf l t.im[j] with
  | some m => exact ⟨m, rfl⟩
  | none => rw [lacksB_im hj hq] at h; cases h

def lenOf : Value → Nat | .slice _ n _ => n | _ => 0

theorem owns_slice {w : World} {base n size : Nat} {e : TypeId} {v : Value} {xs : List Value} (h : w.ownsRow base e size v n xs) : ∃ a c, v = .slice a n c := by
  rcases h.2 with ⟨h1, h2⟩ | ⟨g, cap, cur, h1, _⟩
  · exact ⟨none, 0, by rw [h1, h2]⟩
  · exact ⟨_, _, h1⟩

theorem owns_ints {w : World} {base : Nat} {a : Option Addr} {c n : Nat} {xs : List Int} (h : w.ownsRow base 3 1 (.slice a n c) n (xs.map (Value.int .i64))) : IntsAt w a xs ∧ xs.length = n := by
  have hlen : xs.length = n := by have := h.1; simpa using this
  refine ⟨fun i hi => ?_, hlen⟩
  rcases h.2 with ⟨h1, h2⟩ | ⟨g, cap, cur, h1, h3⟩
  · omega
  · have h1' := h1
    simp only [Value.slice.injEq, true_and] at h1'
    obtain ⟨rfl, rfl⟩ := h1'
    refine ⟨g, 0, rfl, ?_⟩
    rw [Nat.zero_add]
    rw [h.cellAt i (by omega), List.getElem?_map, List.getElem?_eq_getElem hi]; rfl

theorem ordGo_none {l : List Tab} {f : Nat} {tk : List Bool} {out : List Nat} (h : (List.range l.length).find? (nextB l tk) = none) : ordGo l (f + 1) tk out = ([], optI ((List.range l.length).find? (untB tk)), 20) := by
  simp only [ordGo, h]

theorem ordGo_some {l : List Tab} {f : Nat} {tk : List Bool} {out : List Nat} {i : Nat} (h : (List.range l.length).find? (nextB l tk) = some i) : ordGo l (f + 1) tk out = ordGo l f (tk.set i true) (out ++ [i]) := by
  simp only [ordGo, h]

theorem new_cell (w : World) (p : Addr) (v x : Value) (t : TypeId) : ((w.setCell p v).alloc (.cells #[x] t)).cell? ⟨w.heap.size, 0, none⟩ = some x := by
  rw [World.cell?_alloc_at _ _ _ _ (by simp)]; rfl

/- A round's end: a table is taken, and its number put behind the others. -/
theorem round_end {w wr w4 : World} {B Bt i1 n : Nat} {v v' : Value} {tk : List Bool} {out : List Nat} {X : Obj}
    (HO : wr.ownsRow (Bt + 1) 3 1 v out.length ((out.map Int.ofNat).map (Value.int .i64))) (HK : wr.ownsRow Bt 4 1 (.slice (some ⟨Bt, 0, none⟩) n n) n (tk.map Value.bool))
    (h4 : w4.ownsRow (Bt + 1) 3 1 v' (out.length + 1) ((out.map Int.ofNat).map (Value.int .i64) ++ [.int .i64 (i1 : Int)])) (hg : ((wr.setCell ⟨Bt, i1, none⟩ (.bool true)).alloc X).grownBy w4 v.ownBlock)
    (hb : Below B w wr) (hB : B ≤ Bt) (hs : Bt + 1 ≤ wr.heap.size) :
    w4.ownsRow (Bt + 1) 3 1 v' (out ++ [i1]).length (((out ++ [i1]).map Int.ofNat).map (Value.int .i64)) ∧
      w4.ownsRow Bt 4 1 (.slice (some ⟨Bt, 0, none⟩) n n) n ((tk.set i1 true).map Value.bool) ∧ Below B w w4 ∧ Bt + 1 ≤ w4.heap.size := by
  have hst := HK.stored i1 (.bool true)
  have hlt := HO.lt
  refine ⟨by simpa using h4, ?_, ?_, ?_⟩
  · rw [List.map_set]
    refine (hst.1.alloc X).kept hg (.inr ?_)
    show some Bt ≠ v.ownBlock
    intro e
    have := (hlt Bt e.symm).1
    omega
  · refine ((hb.setCell (p := ⟨Bt, i1, none⟩) hB _).alloc ?_ X).grown hg ?_ ?_
    · simp only [World.size_setCell]; omega
    · simp only [World.size_alloc, World.size_setCell]; omega
    · intro k hk
      have := (hlt k hk).1
      omega
  · have := hg.size
    simp only [World.size_alloc, World.size_setCell] at this
    omega

end Go.Proofs.YtdmjlimmllhhoaaGreatDoor

