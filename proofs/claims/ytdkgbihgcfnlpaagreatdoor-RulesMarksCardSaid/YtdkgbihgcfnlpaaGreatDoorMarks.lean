/- The walks of law 34's RulesMarks, second part: Mark and Unmark. -/
import Derived.Test.YtdkgbihgcfnlpaaGreatDoorWalks
namespace Go.Proofs.YtdkgbihgcfnlpaaGreatDoor
open Go Go.RowKit
set_option maxRecDepth 100000

theorem and15 (m : Int) : bits BinOp.and IntKind.i64 m 15 = m % 16 := by
  have h : bits BinOp.and IntKind.i64 m 15 = IntKind.i64.wrap ((BitVec.ofInt 64 m &&& BitVec.ofInt 64 15).toNat : Int) := rfl
  rw [h]
  have h2 : (BitVec.ofInt 64 m &&& BitVec.ofInt 64 15).toNat = (m % 18446744073709551616).toNat % 16 := by
    rw [BitVec.toNat_and, BitVec.toNat_ofInt, BitVec.toNat_ofInt]
    have : ((15 : Int) % (2 ^ 64 : Nat)).toNat = 2 ^ 4 - 1 := by decide
    rw [this, Nat.and_two_pow_sub_one_eq_mod]
    rfl
  rw [h2, IntKind.wrap_i64]
  omega

theorem unmark5 (m : Int) (h0 : -1099511627776 ≤ m) (h1 : m ≤ 1099511627776) (w : World) : Calls Tryz.prog 5 #[.int .i64 m] w fun e w' => e = .returned (.tuple #[.int .i64 (m / 16 - 1), .int .i64 (m % 16)]) ∧ w' = w := by
  go_enter Tryz.func5, Tryz.ntmps5
  go_wp2
  go_ret2
  refine ⟨?_, rfl⟩
  rw [← and15 m, show m / 16 - 1 = wrap64 (m / 16 - 1) by go_arith]
  rfl

theorem unmark6 (m : Int) (h0 : -1099511627776 ≤ m) (h1 : m ≤ 1099511627776) (w : World) : Calls Tryz.prog 6 #[.int .i64 m] w fun e w' => e = .returned (.tuple #[.int .i64 (m / 16 - 1), .int .i64 (m % 16)]) ∧ w' = w := by
  go_enter Tryz.func6, Tryz.ntmps6
  have e0 := Int.mul_tdiv_add_tmod m 16
  have e1 := Int.tmod_lt_of_pos m (show (0 : Int) < 16 by decide)
  have e2 : -16 < m.tmod 16 := by
    rcases Int.le_total 0 m with q | q
    · have := Int.tmod_nonneg 16 q; omega
    · have h3 := Int.tmod_nonneg 16 (show 0 ≤ -m by omega)
      have h4 := Int.tmod_lt_of_pos (-m) (show (0 : Int) < 16 by decide)
      rw [Int.neg_tmod] at h3 h4
      omega
  go_wp2
  · rename_i hn
    have a1 : m.tmod 16 + 16 = m % 16 := by omega
    have a3 : m - m % 16 = 16 * (m / 16) := by omega
    have a4 : (16 * (m / 16)).tdiv 16 = m / 16 := Int.mul_tdiv_cancel_left _ (by decide)
    have a5 : wrap64 (m / 16 - 1) = m / 16 - 1 := by go_arith
    rw [a1, a3, a4, a5]
    go_ret2
    exact ⟨rfl, rfl⟩
  · rename_i hn
    have a1 : m.tmod 16 = m % 16 := by omega
    have a3 : m - m % 16 = 16 * (m / 16) := by omega
    have a4 : (16 * (m / 16)).tdiv 16 = m / 16 := Int.mul_tdiv_cancel_left _ (by decide)
    have a5 : wrap64 (m / 16 - 1) = m / 16 - 1 := by go_arith
    rw [a1, a3, a4, a5]
    go_ret2
    exact ⟨rfl, rfl⟩

theorem mark7 (n r : Int) (h0 : -1099511627776 ≤ n) (h1 : n ≤ 1099511627776) (h2 : -1099511627776 ≤ r) (h3 : r ≤ 1099511627776) (w : World) : Calls Tryz.prog 7 #[.int .i64 n, .int .i64 r] w fun e w' => e = .returned (.int .i64 (16 * n + 16 + r)) ∧ w' = w := by
  go_enter Tryz.func7, Tryz.ntmps7
  go_wp2
  go_ret
  exact ⟨rfl, rfl⟩
theorem mark8 (n r : Int) (h0 : -1099511627776 ≤ n) (h1 : n ≤ 1099511627776) (h2 : -1099511627776 ≤ r) (h3 : r ≤ 1099511627776) (w : World) : Calls Tryz.prog 8 #[.int .i64 n, .int .i64 r] w fun e w' => e = .returned (.int .i64 (16 * n + 16 + r)) ∧ w' = w := by
  go_enter Tryz.func8, Tryz.ntmps8
  go_wp2
  go_ret
  exact ⟨rfl, rfl⟩

theorem mark7c (c : Int) (h0 : -1099511627776 ≤ c) (h1 : c ≤ 1099511627776) (w : World) : Calls Tryz.prog 7 #[.int .i64 (c / 16 - 1), .int .i64 (c % 16)] w fun e w' => e = .returned (.int .i64 c) ∧ w' = w := by
  have := mark7 (c / 16 - 1) (c % 16) (by omega) (by omega) (by omega) (by omega) w
  rw [show 16 * (c / 16 - 1) + 16 + c % 16 = c by omega] at this
  exact this
theorem mark7b (a b : Int) (h0 : -2147483648 ≤ a) (h1 : a ≤ 2147483647) (w : World) : Calls Tryz.prog 7 #[.int .i64 a, .int .i64 (bits BinOp.and .i64 b 15)] w fun e w' => e = .returned (.int .i64 (16 * a + 16 + b % 16)) ∧ w' = w := by
  rw [and15]
  exact mark7 a (b % 16) (by omega) (by omega) (by omega) (by omega) w
theorem unmark5b (a b : Int) (h0 : -2147483648 ≤ a) (h1 : a ≤ 2147483647) (w : World) : Calls Tryz.prog 5 #[.int .i64 (16 * a + 16 + b % 16)] w fun e w' => e = .returned (.tuple #[.int .i64 a, .int .i64 (bits BinOp.and .i64 b 15)]) ∧ w' = w := by
  rw [and15]
  have := unmark5 (16 * a + 16 + b % 16) (by omega) (by omega) w
  rw [show (16 * a + 16 + b % 16) / 16 - 1 = a by omega, show (16 * a + 16 + b % 16) % 16 = b % 16 by omega] at this
  exact this

theorem law_true (a b c : Int) (a0 : -2147483648 ≤ a) (a1 : a ≤ 2147483647) (b0 : -2147483648 ≤ b) (b1 : b ≤ 2147483647) (c0 : -2147483648 ≤ c) (c1 : c ≤ 2147483647) {t : TypeId} (w : World) (h : w.heap[0]? = some (.cells powC t (0, 0))) :
    Calls Tryz.prog 3 #[.int .i32 a, .int .i32 b, .int .i32 c] w fun e w' => e = .returned (.bool true) ∧ Below w.heap.size w w' := by
  go_enter Tryz.func3, Tryz.ntmps3
  go_wp2_with fail
  refine (awake_true w h).mono fun e w' ⟨he, hb⟩ => ?_
  subst he
  go_wp2_with fail
  refine (unmark5 c (by omega) (by omega) _).mono fun e w2 ⟨he, hw⟩ => ?_
  subst he; subst hw
  go_wp2_with fail
  refine (unmark6 c (by omega) (by omega) _).mono fun e w3 ⟨he, hw⟩ => ?_
  subst he; subst hw
  go_wp2_with fail
  refine (mark7c c (by omega) (by omega) _).mono fun e w2 ⟨he, hw⟩ => ?_
  subst he; subst hw
  go_wp2_with fail
  refine (mark7 a b (by omega) (by omega) (by omega) (by omega) _).mono fun e w3 ⟨he, hw⟩ => ?_
  subst he; subst hw
  go_wp2_with fail
  refine (mark8 a b (by omega) (by omega) (by omega) (by omega) _).mono fun e w2 ⟨he, hw⟩ => ?_
  subst he; subst hw
  go_wp2_with fail
  refine (mark7b a b a0 a1 _).mono fun e w3 ⟨he, hw⟩ => ?_
  subst he; subst hw
  go_wp2_with fail
  refine (unmark5b a b a0 a1 _).mono fun e w2 ⟨he, hw⟩ => ?_
  subst he; subst hw
  go_wp2_with fail
  go_ret
  exact ⟨rfl, hb⟩
end Go.Proofs.YtdkgbihgcfnlpaaGreatDoor
