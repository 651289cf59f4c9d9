/- The tables of the program for the evaluator, and that they are the program's. Printed by a program of this session. -/
import Derived.Test.YtogaadmkgamhpaaGreatDoorEv4
import Derived.Test.YtogaadmkgamhpaaGreatDoorProg
namespace Go.Proofs.YtogaadmkgamhpaaGreatDoor
open Go Go.Ev
set_option maxRecDepth 100000
noncomputable def ti0 : TI := { desc := Tryz.t0.desc, size := 1, bytes := 0, agg := false, zero := some (.tup []), eqOk := false }
theorem tok0 : TyRow Tryz.prog 396 0 ti0 := ⟨by kernel_rfl, by kernel_rfl, by kernel_rfl⟩
noncomputable def ti1 : TI := { desc := Tryz.t1.desc, size := 1, bytes := 8, agg := false, zero := some .nilFunc, eqOk := false }
theorem tok1 : TyRow Tryz.prog 396 1 ti1 := ⟨by kernel_rfl, by kernel_rfl, by kernel_rfl⟩
noncomputable def ti2 : TI := { desc := Tryz.t2.desc, size := 1, bytes := 8, agg := false, zero := some (.int .i64 (0)), eqOk := true }
theorem tok2 : TyRow Tryz.prog 396 2 ti2 := ⟨by kernel_rfl, by kernel_rfl, by kernel_rfl⟩
noncomputable def ti3 : TI := { desc := Tryz.t3.desc, size := 1, bytes := 8, agg := false, zero := some (.int .i64 (0)), eqOk := true }
theorem tok3 : TyRow Tryz.prog 396 3 ti3 := ⟨by kernel_rfl, by kernel_rfl, by kernel_rfl⟩
noncomputable def ti4 : TI := { desc := Tryz.t4.desc, size := 1, bytes := 1, agg := false, zero := some (.bool false), eqOk := true }
theorem tok4 : TyRow Tryz.prog 396 4 ti4 := ⟨by kernel_rfl, by kernel_rfl, by kernel_rfl⟩
noncomputable def ti5 : TI := { desc := Tryz.t5.desc, size := 1, bytes := 1, agg := false, zero := some (.int .u8 (0)), eqOk := true }
theorem tok5 : TyRow Tryz.prog 396 5 ti5 := ⟨by kernel_rfl, by kernel_rfl, by kernel_rfl⟩
noncomputable def ti6 : TI := { desc := Tryz.t5.desc, size := 1, bytes := 1, agg := false, zero := some (.int .u8 (0)), eqOk := true }
theorem tok6 : TyRow Tryz.prog 396 6 ti6 := ⟨by kernel_rfl, by kernel_rfl, by kernel_rfl⟩
noncomputable def ti7 : TI := { desc := Tryz.t7.desc, size := 4, bytes := 24, agg := true, zero := some (.agg [(.int .i64 (0)), (.int .i64 (0)), (.bool false), (.int .u8 (0))]), eqOk := true }
theorem tok7 : TyRow Tryz.prog 396 7 ti7 := ⟨by kernel_rfl, by kernel_rfl, by kernel_rfl⟩
noncomputable def ti8 : TI := { desc := Tryz.t7.desc, size := 4, bytes := 24, agg := true, zero := some (.agg [(.int .i64 (0)), (.int .i64 (0)), (.bool false), (.int .u8 (0))]), eqOk := true }
theorem tok8 : TyRow Tryz.prog 396 8 ti8 := ⟨by kernel_rfl, by kernel_rfl, by kernel_rfl⟩
noncomputable def ti9 : TI := { desc := Tryz.t9.desc, size := 1, bytes := 16, agg := false, zero := some (.str []), eqOk := true }
theorem tok9 : TyRow Tryz.prog 396 9 ti9 := ⟨by kernel_rfl, by kernel_rfl, by kernel_rfl⟩
noncomputable def ti10 : TI := { desc := Tryz.t9.desc, size := 1, bytes := 16, agg := false, zero := some (.str []), eqOk := true }
theorem tok10 : TyRow Tryz.prog 396 10 ti10 := ⟨by kernel_rfl, by kernel_rfl, by kernel_rfl⟩
noncomputable def ti11 : TI := { desc := Tryz.t9.desc, size := 1, bytes := 16, agg := false, zero := some (.str []), eqOk := true }
theorem tok11 : TyRow Tryz.prog 396 11 ti11 := ⟨by kernel_rfl, by kernel_rfl, by kernel_rfl⟩
noncomputable def ti12 : TI := { desc := Tryz.t12.desc, size := 1, bytes := 8, agg := false, zero := some (.int .u64 (0)), eqOk := true }
theorem tok12 : TyRow Tryz.prog 396 12 ti12 := ⟨by kernel_rfl, by kernel_rfl, by kernel_rfl⟩
noncomputable def ti13 : TI := { desc := Tryz.t13.desc, size := 2, bytes := 24, agg := true, zero := some (.agg [(.str []), (.int .u64 (0))]), eqOk := false }
theorem tok13 : TyRow Tryz.prog 396 13 ti13 := ⟨by kernel_rfl, by kernel_rfl, by kernel_rfl⟩
noncomputable def ti14 : TI := { desc := Tryz.t13.desc, size := 2, bytes := 24, agg := true, zero := some (.agg [(.str []), (.int .u64 (0))]), eqOk := false }
theorem tok14 : TyRow Tryz.prog 396 14 ti14 := ⟨by kernel_rfl, by kernel_rfl, by kernel_rfl⟩
noncomputable def ti15 : TI := { desc := Tryz.t15.desc, size := 1, bytes := 8, agg := false, zero := some .pnil, eqOk := true }
theorem tok15 : TyRow Tryz.prog 396 15 ti15 := ⟨by kernel_rfl, by kernel_rfl, by kernel_rfl⟩
noncomputable def ti16 : TI := { desc := Tryz.t16.desc, size := 1, bytes := 8, agg := false, zero := some .pnil, eqOk := true }
theorem tok16 : TyRow Tryz.prog 396 16 ti16 := ⟨by kernel_rfl, by kernel_rfl, by kernel_rfl⟩
noncomputable def ti17 : TI := { desc := Tryz.t17.desc, size := 1, bytes := 8, agg := false, zero := some .pnil, eqOk := true }
theorem tok17 : TyRow Tryz.prog 396 17 ti17 := ⟨by kernel_rfl, by kernel_rfl, by kernel_rfl⟩
noncomputable def ti18 : TI := { desc := Tryz.t18.desc, size := 1, bytes := 8, agg := true, zero := some (.agg [.pnil]), eqOk := false }
theorem tok18 : TyRow Tryz.prog 396 18 ti18 := ⟨by kernel_rfl, by kernel_rfl, by kernel_rfl⟩
noncomputable def ti19 : TI := { desc := Tryz.t18.desc, size := 1, bytes := 8, agg := true, zero := some (.agg [.pnil]), eqOk := false }
theorem tok19 : TyRow Tryz.prog 396 19 ti19 := ⟨by kernel_rfl, by kernel_rfl, by kernel_rfl⟩
noncomputable def ti20 : TI := { desc := Tryz.t20.desc, size := 1, bytes := 16, agg := false, zero := some .nilIface, eqOk := true }
theorem tok20 : TyRow Tryz.prog 396 20 ti20 := ⟨by kernel_rfl, by kernel_rfl, by kernel_rfl⟩
noncomputable def ti21 : TI := { desc := Tryz.t21.desc, size := 1, bytes := 4, agg := false, zero := some (.int .i32 (0)), eqOk := true }
theorem tok21 : TyRow Tryz.prog 396 21 ti21 := ⟨by kernel_rfl, by kernel_rfl, by kernel_rfl⟩
noncomputable def ti22 : TI := { desc := Tryz.t22.desc, size := 1, bytes := 8, agg := false, zero := some .nilFunc, eqOk := false }
theorem tok22 : TyRow Tryz.prog 396 22 ti22 := ⟨by kernel_rfl, by kernel_rfl, by kernel_rfl⟩
noncomputable def ti23 : TI := { desc := Tryz.t23.desc, size := 1, bytes := 24, agg := false, zero := some .snil, eqOk := false }
theorem tok23 : TyRow Tryz.prog 396 23 ti23 := ⟨by kernel_rfl, by kernel_rfl, by kernel_rfl⟩
noncomputable def ti24 : TI := { desc := Tryz.t24.desc, size := 1, bytes := 24, agg := false, zero := some .snil, eqOk := false }
theorem tok24 : TyRow Tryz.prog 396 24 ti24 := ⟨by kernel_rfl, by kernel_rfl, by kernel_rfl⟩
noncomputable def ti25 : TI := { desc := Tryz.t25.desc, size := 2, bytes := 48, agg := true, zero := some (.agg [.snil, .snil]), eqOk := false }
theorem tok25 : TyRow Tryz.prog 396 25 ti25 := ⟨by kernel_rfl, by kernel_rfl, by kernel_rfl⟩
noncomputable def ti26 : TI := { desc := Tryz.t25.desc, size := 2, bytes := 48, agg := true, zero := some (.agg [.snil, .snil]), eqOk := false }
theorem tok26 : TyRow Tryz.prog 396 26 ti26 := ⟨by kernel_rfl, by kernel_rfl, by kernel_rfl⟩
noncomputable def ti27 : TI := { desc := Tryz.t27.desc, size := 1, bytes := 8, agg := false, zero := some .nilFunc, eqOk := false }
theorem tok27 : TyRow Tryz.prog 396 27 ti27 := ⟨by kernel_rfl, by kernel_rfl, by kernel_rfl⟩
noncomputable def ti28 : TI := { desc := Tryz.t28.desc, size := 1, bytes := 24, agg := false, zero := some .snil, eqOk := false }
theorem tok28 : TyRow Tryz.prog 396 28 ti28 := ⟨by kernel_rfl, by kernel_rfl, by kernel_rfl⟩
noncomputable def ti29 : TI := { desc := Tryz.t29.desc, size := 1, bytes := 24, agg := true, zero := some (.agg [.snil]), eqOk := false }
theorem tok29 : TyRow Tryz.prog 396 29 ti29 := ⟨by kernel_rfl, by kernel_rfl, by kernel_rfl⟩
noncomputable def ti30 : TI := { desc := Tryz.t29.desc, size := 1, bytes := 24, agg := true, zero := some (.agg [.snil]), eqOk := false }
theorem tok30 : TyRow Tryz.prog 396 30 ti30 := ⟨by kernel_rfl, by kernel_rfl, by kernel_rfl⟩
noncomputable def ti31 : TI := { desc := Tryz.t3.desc, size := 1, bytes := 8, agg := false, zero := some (.int .i64 (0)), eqOk := true }
theorem tok31 : TyRow Tryz.prog 396 31 ti31 := ⟨by kernel_rfl, by kernel_rfl, by kernel_rfl⟩
noncomputable def ti32 : TI := { desc := Tryz.t32.desc, size := 1, bytes := 0, agg := false, zero := none, eqOk := false }
theorem tok32 : TyRow Tryz.prog 396 32 ti32 := ⟨by kernel_rfl, by kernel_rfl, by kernel_rfl⟩
noncomputable def ti33 : TI := { desc := Tryz.t33.desc, size := 1, bytes := 8, agg := false, zero := some .nilFunc, eqOk := false }
theorem tok33 : TyRow Tryz.prog 396 33 ti33 := ⟨by kernel_rfl, by kernel_rfl, by kernel_rfl⟩
noncomputable def ti34 : TI := { desc := Tryz.t34.desc, size := 1, bytes := 8, agg := false, zero := some .nilFunc, eqOk := false }
theorem tok34 : TyRow Tryz.prog 396 34 ti34 := ⟨by kernel_rfl, by kernel_rfl, by kernel_rfl⟩
noncomputable def ti35 : TI := { desc := Tryz.t35.desc, size := 1, bytes := 8, agg := false, zero := some .nilFunc, eqOk := false }
theorem tok35 : TyRow Tryz.prog 396 35 ti35 := ⟨by kernel_rfl, by kernel_rfl, by kernel_rfl⟩
noncomputable def ti36 : TI := { desc := Tryz.t3.desc, size := 1, bytes := 8, agg := false, zero := some (.int .i64 (0)), eqOk := true }
theorem tok36 : TyRow Tryz.prog 396 36 ti36 := ⟨by kernel_rfl, by kernel_rfl, by kernel_rfl⟩
noncomputable def ti37 : TI := { desc := Tryz.t37.desc, size := 1, bytes := 24, agg := false, zero := some .snil, eqOk := false }
theorem tok37 : TyRow Tryz.prog 396 37 ti37 := ⟨by kernel_rfl, by kernel_rfl, by kernel_rfl⟩
noncomputable def ti38 : TI := { desc := Tryz.t38.desc, size := 1, bytes := 24, agg := false, zero := some .snil, eqOk := false }
theorem tok38 : TyRow Tryz.prog 396 38 ti38 := ⟨by kernel_rfl, by kernel_rfl, by kernel_rfl⟩
noncomputable def ti39 : TI := { desc := Tryz.t39.desc, size := 7, bytes := 96, agg := true, zero := some (.agg [(.str []), (.int .i64 (0)), (.int .i64 (0)), .snil, .snil, (.int .i64 (0)), (.bool false)]), eqOk := false }
theorem tok39 : TyRow Tryz.prog 396 39 ti39 := ⟨by kernel_rfl, by kernel_rfl, by kernel_rfl⟩
noncomputable def ti40 : TI := { desc := Tryz.t39.desc, size := 7, bytes := 96, agg := true, zero := some (.agg [(.str []), (.int .i64 (0)), (.int .i64 (0)), .snil, .snil, (.int .i64 (0)), (.bool false)]), eqOk := false }
theorem tok40 : TyRow Tryz.prog 396 40 ti40 := ⟨by kernel_rfl, by kernel_rfl, by kernel_rfl⟩
noncomputable def ti41 : TI := { desc := Tryz.t41.desc, size := 1, bytes := 24, agg := false, zero := some .snil, eqOk := false }
theorem tok41 : TyRow Tryz.prog 396 41 ti41 := ⟨by kernel_rfl, by kernel_rfl, by kernel_rfl⟩
noncomputable def ti42 : TI := { desc := Tryz.t42.desc, size := 1, bytes := 24, agg := false, zero := some .snil, eqOk := false }
theorem tok42 : TyRow Tryz.prog 396 42 ti42 := ⟨by kernel_rfl, by kernel_rfl, by kernel_rfl⟩
noncomputable def ti43 : TI := { desc := Tryz.t43.desc, size := 10, bytes := 128, agg := true, zero := some (.agg [(.int .i64 (0)), (.int .i64 (0)), .snil, (.int .i64 (0)), (.int .i64 (0)), (.int .i64 (0)), .snil, (.bool false), .snil, (.int .i64 (0))]), eqOk := false }
theorem tok43 : TyRow Tryz.prog 396 43 ti43 := ⟨by kernel_rfl, by kernel_rfl, by kernel_rfl⟩
noncomputable def ti44 : TI := { desc := Tryz.t43.desc, size := 10, bytes := 128, agg := true, zero := some (.agg [(.int .i64 (0)), (.int .i64 (0)), .snil, (.int .i64 (0)), (.int .i64 (0)), (.int .i64 (0)), .snil, (.bool false), .snil, (.int .i64 (0))]), eqOk := false }
theorem tok44 : TyRow Tryz.prog 396 44 ti44 := ⟨by kernel_rfl, by kernel_rfl, by kernel_rfl⟩
noncomputable def ti45 : TI := { desc := Tryz.t45.desc, size := 1, bytes := 24, agg := false, zero := some .snil, eqOk := false }
theorem tok45 : TyRow Tryz.prog 396 45 ti45 := ⟨by kernel_rfl, by kernel_rfl, by kernel_rfl⟩
noncomputable def ti46 : TI := { desc := Tryz.t46.desc, size := 3, bytes := 40, agg := true, zero := some (.agg [(.int .i64 (0)), (.int .i64 (0)), .snil]), eqOk := false }
theorem tok46 : TyRow Tryz.prog 396 46 ti46 := ⟨by kernel_rfl, by kernel_rfl, by kernel_rfl⟩
noncomputable def ti47 : TI := { desc := Tryz.t46.desc, size := 3, bytes := 40, agg := true, zero := some (.agg [(.int .i64 (0)), (.int .i64 (0)), .snil]), eqOk := false }
theorem tok47 : TyRow Tryz.prog 396 47 ti47 := ⟨by kernel_rfl, by kernel_rfl, by kernel_rfl⟩
noncomputable def ti48 : TI := { desc := Tryz.t48.desc, size := 1, bytes := 8, agg := false, zero := some .nilFunc, eqOk := false }
theorem tok48 : TyRow Tryz.prog 396 48 ti48 := ⟨by kernel_rfl, by kernel_rfl, by kernel_rfl⟩
noncomputable def ti49 : TI := { desc := Tryz.t49.desc, size := 1, bytes := 8, agg := false, zero := some .nilFunc, eqOk := false }
theorem tok49 : TyRow Tryz.prog 396 49 ti49 := ⟨by kernel_rfl, by kernel_rfl, by kernel_rfl⟩
noncomputable def ti50 : TI := { desc := Tryz.t50.desc, size := 1, bytes := 0, agg := false, zero := some (.tup [(.int .i64 (0)), (.int .i64 (0)), (.int .i64 (0))]), eqOk := false }
theorem tok50 : TyRow Tryz.prog 396 50 ti50 := ⟨by kernel_rfl, by kernel_rfl, by kernel_rfl⟩
noncomputable def ti51 : TI := { desc := Tryz.t51.desc, size := 1, bytes := 8, agg := false, zero := some .nilFunc, eqOk := false }
theorem tok51 : TyRow Tryz.prog 396 51 ti51 := ⟨by kernel_rfl, by kernel_rfl, by kernel_rfl⟩
noncomputable def ti52 : TI := { desc := Tryz.t52.desc, size := 1, bytes := 24, agg := false, zero := some .snil, eqOk := false }
theorem tok52 : TyRow Tryz.prog 396 52 ti52 := ⟨by kernel_rfl, by kernel_rfl, by kernel_rfl⟩
noncomputable def ti53 : TI := { desc := Tryz.t53.desc, size := 2, bytes := 40, agg := true, zero := some (.agg [(.str []), .snil]), eqOk := false }
theorem tok53 : TyRow Tryz.prog 396 53 ti53 := ⟨by kernel_rfl, by kernel_rfl, by kernel_rfl⟩
noncomputable def ti54 : TI := { desc := Tryz.t53.desc, size := 2, bytes := 40, agg := true, zero := some (.agg [(.str []), .snil]), eqOk := false }
theorem tok54 : TyRow Tryz.prog 396 54 ti54 := ⟨by kernel_rfl, by kernel_rfl, by kernel_rfl⟩
noncomputable def ti55 : TI := { desc := Tryz.t55.desc, size := 1, bytes := 24, agg := false, zero := some .snil, eqOk := false }
theorem tok55 : TyRow Tryz.prog 396 55 ti55 := ⟨by kernel_rfl, by kernel_rfl, by kernel_rfl⟩
noncomputable def ti56 : TI := { desc := Tryz.t56.desc, size := 2, bytes := 40, agg := true, zero := some (.agg [(.str []), .snil]), eqOk := false }
theorem tok56 : TyRow Tryz.prog 396 56 ti56 := ⟨by kernel_rfl, by kernel_rfl, by kernel_rfl⟩
noncomputable def ti57 : TI := { desc := Tryz.t56.desc, size := 2, bytes := 40, agg := true, zero := some (.agg [(.str []), .snil]), eqOk := false }
theorem tok57 : TyRow Tryz.prog 396 57 ti57 := ⟨by kernel_rfl, by kernel_rfl, by kernel_rfl⟩
noncomputable def ti58 : TI := { desc := Tryz.t58.desc, size := 2, bytes := 16, agg := true, zero := some (.agg [(.int .i64 (0)), (.bool false)]), eqOk := true }
theorem tok58 : TyRow Tryz.prog 396 58 ti58 := ⟨by kernel_rfl, by kernel_rfl, by kernel_rfl⟩
noncomputable def ti59 : TI := { desc := Tryz.t58.desc, size := 2, bytes := 16, agg := true, zero := some (.agg [(.int .i64 (0)), (.bool false)]), eqOk := true }
theorem tok59 : TyRow Tryz.prog 396 59 ti59 := ⟨by kernel_rfl, by kernel_rfl, by kernel_rfl⟩
noncomputable def ti60 : TI := { desc := Tryz.t60.desc, size := 1, bytes := 8, agg := false, zero := some .nilFunc, eqOk := false }
theorem tok60 : TyRow Tryz.prog 396 60 ti60 := ⟨by kernel_rfl, by kernel_rfl, by kernel_rfl⟩
noncomputable def ti61 : TI := { desc := Tryz.t61.desc, size := 1, bytes := 0, agg := false, zero := none, eqOk := false }
theorem tok61 : TyRow Tryz.prog 396 61 ti61 := ⟨by kernel_rfl, by kernel_rfl, by kernel_rfl⟩
noncomputable def ti62 : TI := { desc := Tryz.t62.desc, size := 1, bytes := 8, agg := false, zero := some .nilFunc, eqOk := false }
theorem tok62 : TyRow Tryz.prog 396 62 ti62 := ⟨by kernel_rfl, by kernel_rfl, by kernel_rfl⟩
noncomputable def ti63 : TI := { desc := Tryz.t63.desc, size := 1, bytes := 0, agg := false, zero := some (.tup [(.int .i64 (0)), (.int .i64 (0))]), eqOk := false }
theorem tok63 : TyRow Tryz.prog 396 63 ti63 := ⟨by kernel_rfl, by kernel_rfl, by kernel_rfl⟩
noncomputable def ti64 : TI := { desc := Tryz.t64.desc, size := 1, bytes := 8, agg := false, zero := some .nilFunc, eqOk := false }
theorem tok64 : TyRow Tryz.prog 396 64 ti64 := ⟨by kernel_rfl, by kernel_rfl, by kernel_rfl⟩
noncomputable def ti65 : TI := { desc := Tryz.t65.desc, size := 1, bytes := 24, agg := false, zero := some .snil, eqOk := false }
theorem tok65 : TyRow Tryz.prog 396 65 ti65 := ⟨by kernel_rfl, by kernel_rfl, by kernel_rfl⟩
noncomputable def ti66 : TI := { desc := Tryz.t66.desc, size := 1, bytes := 24, agg := false, zero := some .snil, eqOk := false }
theorem tok66 : TyRow Tryz.prog 396 66 ti66 := ⟨by kernel_rfl, by kernel_rfl, by kernel_rfl⟩
noncomputable def ti67 : TI := { desc := Tryz.t67.desc, size := 4, bytes := 80, agg := true, zero := some (.agg [.snil, (.str []), .snil, (.str [])]), eqOk := false }
theorem tok67 : TyRow Tryz.prog 396 67 ti67 := ⟨by kernel_rfl, by kernel_rfl, by kernel_rfl⟩
noncomputable def ti68 : TI := { desc := Tryz.t67.desc, size := 4, bytes := 80, agg := true, zero := some (.agg [.snil, (.str []), .snil, (.str [])]), eqOk := false }
theorem tok68 : TyRow Tryz.prog 396 68 ti68 := ⟨by kernel_rfl, by kernel_rfl, by kernel_rfl⟩
noncomputable def ti69 : TI := { desc := Tryz.t69.desc, size := 1, bytes := 24, agg := false, zero := some .snil, eqOk := false }
theorem tok69 : TyRow Tryz.prog 396 69 ti69 := ⟨by kernel_rfl, by kernel_rfl, by kernel_rfl⟩
noncomputable def ti70 : TI := { desc := Tryz.t70.desc, size := 7, bytes := 136, agg := true, zero := some (.agg [(.int .i64 (0)), .snil, (.str []), .snil, (.str []), .snil, .snil]), eqOk := false }
theorem tok70 : TyRow Tryz.prog 396 70 ti70 := ⟨by kernel_rfl, by kernel_rfl, by kernel_rfl⟩
noncomputable def ti71 : TI := { desc := Tryz.t70.desc, size := 7, bytes := 136, agg := true, zero := some (.agg [(.int .i64 (0)), .snil, (.str []), .snil, (.str []), .snil, .snil]), eqOk := false }
theorem tok71 : TyRow Tryz.prog 396 71 ti71 := ⟨by kernel_rfl, by kernel_rfl, by kernel_rfl⟩
noncomputable def ti72 : TI := { desc := Tryz.t72.desc, size := 1, bytes := 24, agg := false, zero := some .snil, eqOk := false }
theorem tok72 : TyRow Tryz.prog 396 72 ti72 := ⟨by kernel_rfl, by kernel_rfl, by kernel_rfl⟩
noncomputable def ti73 : TI := { desc := Tryz.t73.desc, size := 2, bytes := 40, agg := true, zero := some (.agg [(.str []), .snil]), eqOk := false }
theorem tok73 : TyRow Tryz.prog 396 73 ti73 := ⟨by kernel_rfl, by kernel_rfl, by kernel_rfl⟩
noncomputable def ti74 : TI := { desc := Tryz.t73.desc, size := 2, bytes := 40, agg := true, zero := some (.agg [(.str []), .snil]), eqOk := false }
theorem tok74 : TyRow Tryz.prog 396 74 ti74 := ⟨by kernel_rfl, by kernel_rfl, by kernel_rfl⟩
noncomputable def ti75 : TI := { desc := Tryz.t75.desc, size := 1, bytes := 8, agg := false, zero := some .nilFunc, eqOk := false }
theorem tok75 : TyRow Tryz.prog 396 75 ti75 := ⟨by kernel_rfl, by kernel_rfl, by kernel_rfl⟩
noncomputable def ti76 : TI := { desc := Tryz.t76.desc, size := 1, bytes := 8, agg := false, zero := some .nilFunc, eqOk := false }
theorem tok76 : TyRow Tryz.prog 396 76 ti76 := ⟨by kernel_rfl, by kernel_rfl, by kernel_rfl⟩
noncomputable def ti77 : TI := { desc := Tryz.t77.desc, size := 1, bytes := 0, agg := false, zero := some (.tup [(.int .i64 (0)), (.bool false)]), eqOk := false }
theorem tok77 : TyRow Tryz.prog 396 77 ti77 := ⟨by kernel_rfl, by kernel_rfl, by kernel_rfl⟩
noncomputable def ti78 : TI := { desc := Tryz.t78.desc, size := 1, bytes := 8, agg := false, zero := some .nilFunc, eqOk := false }
theorem tok78 : TyRow Tryz.prog 396 78 ti78 := ⟨by kernel_rfl, by kernel_rfl, by kernel_rfl⟩
noncomputable def ti79 : TI := { desc := Tryz.t79.desc, size := 1, bytes := 8, agg := false, zero := some .nilFunc, eqOk := false }
theorem tok79 : TyRow Tryz.prog 396 79 ti79 := ⟨by kernel_rfl, by kernel_rfl, by kernel_rfl⟩
noncomputable def ti80 : TI := { desc := Tryz.t80.desc, size := 1, bytes := 8, agg := false, zero := some .nilFunc, eqOk := false }
theorem tok80 : TyRow Tryz.prog 396 80 ti80 := ⟨by kernel_rfl, by kernel_rfl, by kernel_rfl⟩
noncomputable def ti81 : TI := { desc := Tryz.t81.desc, size := 1, bytes := 8, agg := false, zero := some .nilFunc, eqOk := false }
theorem tok81 : TyRow Tryz.prog 396 81 ti81 := ⟨by kernel_rfl, by kernel_rfl, by kernel_rfl⟩
noncomputable def ti82 : TI := { desc := Tryz.t82.desc, size := 1, bytes := 8, agg := false, zero := some .pnil, eqOk := true }
theorem tok82 : TyRow Tryz.prog 396 82 ti82 := ⟨by kernel_rfl, by kernel_rfl, by kernel_rfl⟩
noncomputable def ti83 : TI := { desc := Tryz.t83.desc, size := 9, bytes := 144, agg := true, zero := some (.agg [.snil, (.str []), (.int .i64 (0)), (.int .i64 (0)), .snil, .snil, (.int .i64 (0)), (.bool false), .snil]), eqOk := false }
theorem tok83 : TyRow Tryz.prog 396 83 ti83 := ⟨by kernel_rfl, by kernel_rfl, by kernel_rfl⟩
noncomputable def ti84 : TI := { desc := Tryz.t83.desc, size := 9, bytes := 144, agg := true, zero := some (.agg [.snil, (.str []), (.int .i64 (0)), (.int .i64 (0)), .snil, .snil, (.int .i64 (0)), (.bool false), .snil]), eqOk := false }
theorem tok84 : TyRow Tryz.prog 396 84 ti84 := ⟨by kernel_rfl, by kernel_rfl, by kernel_rfl⟩
noncomputable def ti85 : TI := { desc := Tryz.t85.desc, size := 1, bytes := 8, agg := false, zero := some .nilFunc, eqOk := false }
theorem tok85 : TyRow Tryz.prog 396 85 ti85 := ⟨by kernel_rfl, by kernel_rfl, by kernel_rfl⟩
noncomputable def ti86 : TI := { desc := Tryz.t86.desc, size := 1, bytes := 8, agg := false, zero := some .nilFunc, eqOk := false }
theorem tok86 : TyRow Tryz.prog 396 86 ti86 := ⟨by kernel_rfl, by kernel_rfl, by kernel_rfl⟩
noncomputable def ti87 : TI := { desc := Tryz.t87.desc, size := 1, bytes := 8, agg := false, zero := some .nilFunc, eqOk := false }
theorem tok87 : TyRow Tryz.prog 396 87 ti87 := ⟨by kernel_rfl, by kernel_rfl, by kernel_rfl⟩
noncomputable def ti88 : TI := { desc := Tryz.t88.desc, size := 1, bytes := 8, agg := false, zero := some .nilFunc, eqOk := false }
theorem tok88 : TyRow Tryz.prog 396 88 ti88 := ⟨by kernel_rfl, by kernel_rfl, by kernel_rfl⟩
noncomputable def ti89 : TI := { desc := Tryz.t89.desc, size := 1, bytes := 8, agg := false, zero := some .pnil, eqOk := true }
theorem tok89 : TyRow Tryz.prog 396 89 ti89 := ⟨by kernel_rfl, by kernel_rfl, by kernel_rfl⟩
noncomputable def ti90 : TI := { desc := Tryz.t90.desc, size := 1, bytes := 24, agg := false, zero := some .snil, eqOk := false }
theorem tok90 : TyRow Tryz.prog 396 90 ti90 := ⟨by kernel_rfl, by kernel_rfl, by kernel_rfl⟩
noncomputable def ti91 : TI := { desc := Tryz.t91.desc, size := 12, bytes := 216, agg := true, zero := some (.agg [.snil, .snil, (.str []), (.int .i64 (0)), (.int .i64 (0)), .snil, .snil, (.int .i64 (0)), (.bool false), .snil, .snil, .snil]), eqOk := false }
theorem tok91 : TyRow Tryz.prog 396 91 ti91 := ⟨by kernel_rfl, by kernel_rfl, by kernel_rfl⟩
noncomputable def ti92 : TI := { desc := Tryz.t91.desc, size := 12, bytes := 216, agg := true, zero := some (.agg [.snil, .snil, (.str []), (.int .i64 (0)), (.int .i64 (0)), .snil, .snil, (.int .i64 (0)), (.bool false), .snil, .snil, .snil]), eqOk := false }
theorem tok92 : TyRow Tryz.prog 396 92 ti92 := ⟨by kernel_rfl, by kernel_rfl, by kernel_rfl⟩
noncomputable def ti93 : TI := { desc := Tryz.t93.desc, size := 1, bytes := 8, agg := false, zero := some .nilFunc, eqOk := false }
theorem tok93 : TyRow Tryz.prog 396 93 ti93 := ⟨by kernel_rfl, by kernel_rfl, by kernel_rfl⟩
noncomputable def ti94 : TI := { desc := Tryz.t94.desc, size := 1, bytes := 8, agg := false, zero := some .nilFunc, eqOk := false }
theorem tok94 : TyRow Tryz.prog 396 94 ti94 := ⟨by kernel_rfl, by kernel_rfl, by kernel_rfl⟩
noncomputable def ti95 : TI := { desc := Tryz.t95.desc, size := 1, bytes := 8, agg := false, zero := some .nilFunc, eqOk := false }
theorem tok95 : TyRow Tryz.prog 396 95 ti95 := ⟨by kernel_rfl, by kernel_rfl, by kernel_rfl⟩
noncomputable def ti96 : TI := { desc := Tryz.t96.desc, size := 1, bytes := 8, agg := false, zero := some .nilFunc, eqOk := false }
theorem tok96 : TyRow Tryz.prog 396 96 ti96 := ⟨by kernel_rfl, by kernel_rfl, by kernel_rfl⟩
noncomputable def ti97 : TI := { desc := Tryz.t97.desc, size := 1, bytes := 8, agg := false, zero := some .nilFunc, eqOk := false }
theorem tok97 : TyRow Tryz.prog 396 97 ti97 := ⟨by kernel_rfl, by kernel_rfl, by kernel_rfl⟩
noncomputable def ti98 : TI := { desc := Tryz.t98.desc, size := 1, bytes := 8, agg := false, zero := some .nilFunc, eqOk := false }
theorem tok98 : TyRow Tryz.prog 396 98 ti98 := ⟨by kernel_rfl, by kernel_rfl, by kernel_rfl⟩
noncomputable def ti99 : TI := { desc := Tryz.t99.desc, size := 1, bytes := 8, agg := false, zero := some .pnil, eqOk := true }
theorem tok99 : TyRow Tryz.prog 396 99 ti99 := ⟨by kernel_rfl, by kernel_rfl, by kernel_rfl⟩
noncomputable def ti100 : TI := { desc := Tryz.t100.desc, size := 1, bytes := 8, agg := false, zero := some .nilFunc, eqOk := false }
theorem tok100 : TyRow Tryz.prog 396 100 ti100 := ⟨by kernel_rfl, by kernel_rfl, by kernel_rfl⟩
noncomputable def ti101 : TI := { desc := Tryz.t101.desc, size := 1, bytes := 8, agg := false, zero := some .mnil, eqOk := false }
theorem tok101 : TyRow Tryz.prog 396 101 ti101 := ⟨by kernel_rfl, by kernel_rfl, by kernel_rfl⟩
noncomputable def ti102 : TI := { desc := Tryz.t102.desc, size := 11, bytes := 176, agg := true, zero := some (.agg [.snil, .snil, (.str []), (.int .i64 (0)), (.int .i64 (0)), .snil, .snil, (.int .i64 (0)), (.bool false), .snil, .mnil]), eqOk := false }
theorem tok102 : TyRow Tryz.prog 396 102 ti102 := ⟨by kernel_rfl, by kernel_rfl, by kernel_rfl⟩
noncomputable def ti103 : TI := { desc := Tryz.t102.desc, size := 11, bytes := 176, agg := true, zero := some (.agg [.snil, .snil, (.str []), (.int .i64 (0)), (.int .i64 (0)), .snil, .snil, (.int .i64 (0)), (.bool false), .snil, .mnil]), eqOk := false }
theorem tok103 : TyRow Tryz.prog 396 103 ti103 := ⟨by kernel_rfl, by kernel_rfl, by kernel_rfl⟩
noncomputable def ti104 : TI := { desc := Tryz.t104.desc, size := 1, bytes := 8, agg := false, zero := some .nilFunc, eqOk := false }
theorem tok104 : TyRow Tryz.prog 396 104 ti104 := ⟨by kernel_rfl, by kernel_rfl, by kernel_rfl⟩
noncomputable def ti105 : TI := { desc := Tryz.t105.desc, size := 1, bytes := 8, agg := false, zero := some .nilFunc, eqOk := false }
theorem tok105 : TyRow Tryz.prog 396 105 ti105 := ⟨by kernel_rfl, by kernel_rfl, by kernel_rfl⟩
noncomputable def ti106 : TI := { desc := Tryz.t106.desc, size := 1, bytes := 8, agg := false, zero := some .nilFunc, eqOk := false }
theorem tok106 : TyRow Tryz.prog 396 106 ti106 := ⟨by kernel_rfl, by kernel_rfl, by kernel_rfl⟩
noncomputable def ti107 : TI := { desc := Tryz.t107.desc, size := 2, bytes := 32, agg := true, zero := some (.agg [(.int .i64 (0)), .snil]), eqOk := false }
theorem tok107 : TyRow Tryz.prog 396 107 ti107 := ⟨by kernel_rfl, by kernel_rfl, by kernel_rfl⟩
noncomputable def ti108 : TI := { desc := Tryz.t107.desc, size := 2, bytes := 32, agg := true, zero := some (.agg [(.int .i64 (0)), .snil]), eqOk := false }
theorem tok108 : TyRow Tryz.prog 396 108 ti108 := ⟨by kernel_rfl, by kernel_rfl, by kernel_rfl⟩
noncomputable def ti109 : TI := { desc := Tryz.t109.desc, size := 1, bytes := 8, agg := false, zero := some .nilFunc, eqOk := false }
theorem tok109 : TyRow Tryz.prog 396 109 ti109 := ⟨by kernel_rfl, by kernel_rfl, by kernel_rfl⟩
noncomputable def ti110 : TI := { desc := Tryz.t110.desc, size := 1, bytes := 8, agg := false, zero := some .nilFunc, eqOk := false }
theorem tok110 : TyRow Tryz.prog 396 110 ti110 := ⟨by kernel_rfl, by kernel_rfl, by kernel_rfl⟩
noncomputable def ti111 : TI := { desc := Tryz.t111.desc, size := 1, bytes := 8, agg := false, zero := some .nilFunc, eqOk := false }
theorem tok111 : TyRow Tryz.prog 396 111 ti111 := ⟨by kernel_rfl, by kernel_rfl, by kernel_rfl⟩
noncomputable def ti112 : TI := { desc := Tryz.t112.desc, size := 1, bytes := 8, agg := false, zero := some .nilFunc, eqOk := false }
theorem tok112 : TyRow Tryz.prog 396 112 ti112 := ⟨by kernel_rfl, by kernel_rfl, by kernel_rfl⟩
noncomputable def ti113 : TI := { desc := Tryz.t113.desc, size := 1, bytes := 8, agg := false, zero := some .nilFunc, eqOk := false }
theorem tok113 : TyRow Tryz.prog 396 113 ti113 := ⟨by kernel_rfl, by kernel_rfl, by kernel_rfl⟩
noncomputable def ti114 : TI := { desc := Tryz.t114.desc, size := 2, bytes := 32, agg := true, zero := some (.agg [.snil, (.int .i64 (0))]), eqOk := false }
theorem tok114 : TyRow Tryz.prog 396 114 ti114 := ⟨by kernel_rfl, by kernel_rfl, by kernel_rfl⟩
noncomputable def ti115 : TI := { desc := Tryz.t114.desc, size := 2, bytes := 32, agg := true, zero := some (.agg [.snil, (.int .i64 (0))]), eqOk := false }
theorem tok115 : TyRow Tryz.prog 396 115 ti115 := ⟨by kernel_rfl, by kernel_rfl, by kernel_rfl⟩
noncomputable def ti116 : TI := { desc := Tryz.t116.desc, size := 1, bytes := 8, agg := false, zero := some .nilFunc, eqOk := false }
theorem tok116 : TyRow Tryz.prog 396 116 ti116 := ⟨by kernel_rfl, by kernel_rfl, by kernel_rfl⟩
noncomputable def ti117 : TI := { desc := Tryz.t117.desc, size := 1, bytes := 8, agg := false, zero := some .nilFunc, eqOk := false }
theorem tok117 : TyRow Tryz.prog 396 117 ti117 := ⟨by kernel_rfl, by kernel_rfl, by kernel_rfl⟩
noncomputable def ti118 : TI := { desc := Tryz.t118.desc, size := 1, bytes := 8, agg := false, zero := some .nilFunc, eqOk := false }
theorem tok118 : TyRow Tryz.prog 396 118 ti118 := ⟨by kernel_rfl, by kernel_rfl, by kernel_rfl⟩
noncomputable def ti119 : TI := { desc := Tryz.t119.desc, size := 1, bytes := 8, agg := false, zero := some .nilFunc, eqOk := false }
theorem tok119 : TyRow Tryz.prog 396 119 ti119 := ⟨by kernel_rfl, by kernel_rfl, by kernel_rfl⟩
noncomputable def ti120 : TI := { desc := Tryz.t120.desc, size := 2, bytes := 16, agg := true, zero := some (.agg [.nilFunc, .nilFunc]), eqOk := false }
theorem tok120 : TyRow Tryz.prog 396 120 ti120 := ⟨by kernel_rfl, by kernel_rfl, by kernel_rfl⟩
noncomputable def ti121 : TI := { desc := Tryz.t120.desc, size := 2, bytes := 16, agg := true, zero := some (.agg [.nilFunc, .nilFunc]), eqOk := false }
theorem tok121 : TyRow Tryz.prog 396 121 ti121 := ⟨by kernel_rfl, by kernel_rfl, by kernel_rfl⟩
noncomputable def ti122 : TI := { desc := Tryz.t122.desc, size := 1, bytes := 8, agg := false, zero := some .mnil, eqOk := false }
theorem tok122 : TyRow Tryz.prog 396 122 ti122 := ⟨by kernel_rfl, by kernel_rfl, by kernel_rfl⟩
noncomputable def ti123 : TI := { desc := Tryz.t123.desc, size := 1, bytes := 8, agg := false, zero := some .mnil, eqOk := false }
theorem tok123 : TyRow Tryz.prog 396 123 ti123 := ⟨by kernel_rfl, by kernel_rfl, by kernel_rfl⟩
noncomputable def ti124 : TI := { desc := Tryz.t124.desc, size := 2, bytes := 16, agg := true, zero := some (.agg [.mnil, .mnil]), eqOk := false }
theorem tok124 : TyRow Tryz.prog 396 124 ti124 := ⟨by kernel_rfl, by kernel_rfl, by kernel_rfl⟩
noncomputable def ti125 : TI := { desc := Tryz.t124.desc, size := 2, bytes := 16, agg := true, zero := some (.agg [.mnil, .mnil]), eqOk := false }
theorem tok125 : TyRow Tryz.prog 396 125 ti125 := ⟨by kernel_rfl, by kernel_rfl, by kernel_rfl⟩
noncomputable def ti126 : TI := { desc := Tryz.t126.desc, size := 1, bytes := 0, agg := false, zero := none, eqOk := false }
theorem tok126 : TyRow Tryz.prog 396 126 ti126 := ⟨by kernel_rfl, by kernel_rfl, by kernel_rfl⟩
noncomputable def ti127 : TI := { desc := Tryz.t127.desc, size := 1, bytes := 8, agg := false, zero := some .nilFunc, eqOk := false }
theorem tok127 : TyRow Tryz.prog 396 127 ti127 := ⟨by kernel_rfl, by kernel_rfl, by kernel_rfl⟩
noncomputable def ti128 : TI := { desc := Tryz.t128.desc, size := 1, bytes := 0, agg := false, zero := some (.tup [.snil, .snil, (.int .i64 (0))]), eqOk := false }
theorem tok128 : TyRow Tryz.prog 396 128 ti128 := ⟨by kernel_rfl, by kernel_rfl, by kernel_rfl⟩
noncomputable def ti129 : TI := { desc := Tryz.t129.desc, size := 1, bytes := 8, agg := false, zero := some .nilFunc, eqOk := false }
theorem tok129 : TyRow Tryz.prog 396 129 ti129 := ⟨by kernel_rfl, by kernel_rfl, by kernel_rfl⟩
noncomputable def ti130 : TI := { desc := Tryz.t130.desc, size := 1, bytes := 0, agg := false, zero := none, eqOk := false }
theorem tok130 : TyRow Tryz.prog 396 130 ti130 := ⟨by kernel_rfl, by kernel_rfl, by kernel_rfl⟩
noncomputable def ti131 : TI := { desc := Tryz.t131.desc, size := 1, bytes := 8, agg := false, zero := some .nilFunc, eqOk := false }
theorem tok131 : TyRow Tryz.prog 396 131 ti131 := ⟨by kernel_rfl, by kernel_rfl, by kernel_rfl⟩
noncomputable def ti132 : TI := { desc := Tryz.t132.desc, size := 1, bytes := 8, agg := false, zero := some .pnil, eqOk := true }
theorem tok132 : TyRow Tryz.prog 396 132 ti132 := ⟨by kernel_rfl, by kernel_rfl, by kernel_rfl⟩
noncomputable def ti133 : TI := { desc := Tryz.t133.desc, size := 1, bytes := 8, agg := false, zero := some .nilFunc, eqOk := false }
theorem tok133 : TyRow Tryz.prog 396 133 ti133 := ⟨by kernel_rfl, by kernel_rfl, by kernel_rfl⟩
noncomputable def ti134 : TI := { desc := Tryz.t134.desc, size := 1, bytes := 8, agg := false, zero := some .nilFunc, eqOk := false }
theorem tok134 : TyRow Tryz.prog 396 134 ti134 := ⟨by kernel_rfl, by kernel_rfl, by kernel_rfl⟩
noncomputable def ti135 : TI := { desc := Tryz.t135.desc, size := 1, bytes := 8, agg := false, zero := some .nilFunc, eqOk := false }
theorem tok135 : TyRow Tryz.prog 396 135 ti135 := ⟨by kernel_rfl, by kernel_rfl, by kernel_rfl⟩
noncomputable def ti136 : TI := { desc := Tryz.t136.desc, size := 1, bytes := 8, agg := false, zero := some .nilFunc, eqOk := false }
theorem tok136 : TyRow Tryz.prog 396 136 ti136 := ⟨by kernel_rfl, by kernel_rfl, by kernel_rfl⟩
noncomputable def ti137 : TI := { desc := Tryz.t137.desc, size := 1, bytes := 8, agg := false, zero := some .nilFunc, eqOk := false }
theorem tok137 : TyRow Tryz.prog 396 137 ti137 := ⟨by kernel_rfl, by kernel_rfl, by kernel_rfl⟩
noncomputable def ti138 : TI := { desc := Tryz.t138.desc, size := 1, bytes := 8, agg := false, zero := some .mnil, eqOk := false }
theorem tok138 : TyRow Tryz.prog 396 138 ti138 := ⟨by kernel_rfl, by kernel_rfl, by kernel_rfl⟩
noncomputable def ti139 : TI := { desc := Tryz.t139.desc, size := 1, bytes := 8, agg := false, zero := some .nilFunc, eqOk := false }
theorem tok139 : TyRow Tryz.prog 396 139 ti139 := ⟨by kernel_rfl, by kernel_rfl, by kernel_rfl⟩
noncomputable def ti140 : TI := { desc := Tryz.t140.desc, size := 1, bytes := 8, agg := false, zero := some .nilFunc, eqOk := false }
theorem tok140 : TyRow Tryz.prog 396 140 ti140 := ⟨by kernel_rfl, by kernel_rfl, by kernel_rfl⟩
noncomputable def ti141 : TI := { desc := Tryz.t141.desc, size := 1, bytes := 8, agg := false, zero := some .nilFunc, eqOk := false }
theorem tok141 : TyRow Tryz.prog 396 141 ti141 := ⟨by kernel_rfl, by kernel_rfl, by kernel_rfl⟩
noncomputable def ti142 : TI := { desc := Tryz.t142.desc, size := 1, bytes := 8, agg := false, zero := some .nilFunc, eqOk := false }
theorem tok142 : TyRow Tryz.prog 396 142 ti142 := ⟨by kernel_rfl, by kernel_rfl, by kernel_rfl⟩
noncomputable def ti143 : TI := { desc := Tryz.t143.desc, size := 1, bytes := 8, agg := false, zero := some .nilFunc, eqOk := false }
theorem tok143 : TyRow Tryz.prog 396 143 ti143 := ⟨by kernel_rfl, by kernel_rfl, by kernel_rfl⟩
noncomputable def ti144 : TI := { desc := Tryz.t144.desc, size := 1, bytes := 8, agg := false, zero := some .nilFunc, eqOk := false }
theorem tok144 : TyRow Tryz.prog 396 144 ti144 := ⟨by kernel_rfl, by kernel_rfl, by kernel_rfl⟩
noncomputable def ti145 : TI := { desc := Tryz.t145.desc, size := 1, bytes := 8, agg := false, zero := some .nilFunc, eqOk := false }
theorem tok145 : TyRow Tryz.prog 396 145 ti145 := ⟨by kernel_rfl, by kernel_rfl, by kernel_rfl⟩
noncomputable def ti146 : TI := { desc := Tryz.t146.desc, size := 1, bytes := 0, agg := false, zero := some (.tup [.snil, .snil]), eqOk := false }
theorem tok146 : TyRow Tryz.prog 396 146 ti146 := ⟨by kernel_rfl, by kernel_rfl, by kernel_rfl⟩
noncomputable def ti147 : TI := { desc := Tryz.t147.desc, size := 1, bytes := 8, agg := false, zero := some .nilFunc, eqOk := false }
theorem tok147 : TyRow Tryz.prog 396 147 ti147 := ⟨by kernel_rfl, by kernel_rfl, by kernel_rfl⟩
noncomputable def ti148 : TI := { desc := Tryz.t148.desc, size := 1, bytes := 8, agg := false, zero := some .nilFunc, eqOk := false }
theorem tok148 : TyRow Tryz.prog 396 148 ti148 := ⟨by kernel_rfl, by kernel_rfl, by kernel_rfl⟩
noncomputable def ti149 : TI := { desc := Tryz.t149.desc, size := 1, bytes := 8, agg := false, zero := some .nilFunc, eqOk := false }
theorem tok149 : TyRow Tryz.prog 396 149 ti149 := ⟨by kernel_rfl, by kernel_rfl, by kernel_rfl⟩
noncomputable def ti150 : TI := { desc := Tryz.t150.desc, size := 1, bytes := 8, agg := false, zero := some .nilFunc, eqOk := false }
theorem tok150 : TyRow Tryz.prog 396 150 ti150 := ⟨by kernel_rfl, by kernel_rfl, by kernel_rfl⟩
noncomputable def ti151 : TI := { desc := Tryz.t151.desc, size := 1, bytes := 8, agg := false, zero := some .nilFunc, eqOk := false }
theorem tok151 : TyRow Tryz.prog 396 151 ti151 := ⟨by kernel_rfl, by kernel_rfl, by kernel_rfl⟩
noncomputable def ti152 : TI := { desc := Tryz.t152.desc, size := 1, bytes := 0, agg := false, zero := some (.tup [(.int .i64 (0)), (.int .i64 (0)), (.bool false)]), eqOk := false }
theorem tok152 : TyRow Tryz.prog 396 152 ti152 := ⟨by kernel_rfl, by kernel_rfl, by kernel_rfl⟩
noncomputable def ti153 : TI := { desc := Tryz.t153.desc, size := 1, bytes := 8, agg := false, zero := some .nilFunc, eqOk := false }
theorem tok153 : TyRow Tryz.prog 396 153 ti153 := ⟨by kernel_rfl, by kernel_rfl, by kernel_rfl⟩
noncomputable def ti154 : TI := { desc := Tryz.t154.desc, size := 1, bytes := 8, agg := false, zero := some .nilFunc, eqOk := false }
theorem tok154 : TyRow Tryz.prog 396 154 ti154 := ⟨by kernel_rfl, by kernel_rfl, by kernel_rfl⟩
noncomputable def ti155 : TI := { desc := Tryz.t155.desc, size := 1, bytes := 24, agg := false, zero := some .snil, eqOk := false }
theorem tok155 : TyRow Tryz.prog 396 155 ti155 := ⟨by kernel_rfl, by kernel_rfl, by kernel_rfl⟩
noncomputable def ti156 : TI := { desc := Tryz.t155.desc, size := 1, bytes := 24, agg := false, zero := some .snil, eqOk := false }
theorem tok156 : TyRow Tryz.prog 396 156 ti156 := ⟨by kernel_rfl, by kernel_rfl, by kernel_rfl⟩
noncomputable def ti157 : TI := { desc := Tryz.t157.desc, size := 3, bytes := 56, agg := true, zero := some (.agg [(.bool false), .snil, .snil]), eqOk := false }
theorem tok157 : TyRow Tryz.prog 396 157 ti157 := ⟨by kernel_rfl, by kernel_rfl, by kernel_rfl⟩
noncomputable def ti158 : TI := { desc := Tryz.t157.desc, size := 3, bytes := 56, agg := true, zero := some (.agg [(.bool false), .snil, .snil]), eqOk := false }
theorem tok158 : TyRow Tryz.prog 396 158 ti158 := ⟨by kernel_rfl, by kernel_rfl, by kernel_rfl⟩
noncomputable def ti159 : TI := { desc := Tryz.t159.desc, size := 1, bytes := 0, agg := false, zero := none, eqOk := false }
theorem tok159 : TyRow Tryz.prog 396 159 ti159 := ⟨by kernel_rfl, by kernel_rfl, by kernel_rfl⟩
noncomputable def ti160 : TI := { desc := Tryz.t160.desc, size := 1, bytes := 8, agg := false, zero := some .nilFunc, eqOk := false }
theorem tok160 : TyRow Tryz.prog 396 160 ti160 := ⟨by kernel_rfl, by kernel_rfl, by kernel_rfl⟩
noncomputable def ti161 : TI := { desc := Tryz.t161.desc, size := 1, bytes := 8, agg := false, zero := some .nilFunc, eqOk := false }
theorem tok161 : TyRow Tryz.prog 396 161 ti161 := ⟨by kernel_rfl, by kernel_rfl, by kernel_rfl⟩
noncomputable def ti162 : TI := { desc := Tryz.t162.desc, size := 1, bytes := 8, agg := false, zero := some .nilFunc, eqOk := false }
theorem tok162 : TyRow Tryz.prog 396 162 ti162 := ⟨by kernel_rfl, by kernel_rfl, by kernel_rfl⟩
noncomputable def ti163 : TI := { desc := Tryz.t163.desc, size := 1, bytes := 8, agg := false, zero := some .nilFunc, eqOk := false }
theorem tok163 : TyRow Tryz.prog 396 163 ti163 := ⟨by kernel_rfl, by kernel_rfl, by kernel_rfl⟩
noncomputable def ti164 : TI := { desc := Tryz.t164.desc, size := 9, bytes := 16, agg := true, zero := some (.agg [(.int .i64 (0)), (.bool false), (.bool false), (.bool false), (.bool false), (.bool false), (.bool false), (.bool false), (.bool false)]), eqOk := true }
theorem tok164 : TyRow Tryz.prog 396 164 ti164 := ⟨by kernel_rfl, by kernel_rfl, by kernel_rfl⟩
noncomputable def ti165 : TI := { desc := Tryz.t164.desc, size := 9, bytes := 16, agg := true, zero := some (.agg [(.int .i64 (0)), (.bool false), (.bool false), (.bool false), (.bool false), (.bool false), (.bool false), (.bool false), (.bool false)]), eqOk := true }
theorem tok165 : TyRow Tryz.prog 396 165 ti165 := ⟨by kernel_rfl, by kernel_rfl, by kernel_rfl⟩
noncomputable def ti166 : TI := { desc := Tryz.t166.desc, size := 1, bytes := 0, agg := false, zero := none, eqOk := false }
theorem tok166 : TyRow Tryz.prog 396 166 ti166 := ⟨by kernel_rfl, by kernel_rfl, by kernel_rfl⟩
noncomputable def ti167 : TI := { desc := Tryz.t167.desc, size := 1, bytes := 8, agg := false, zero := some .nilFunc, eqOk := false }
theorem tok167 : TyRow Tryz.prog 396 167 ti167 := ⟨by kernel_rfl, by kernel_rfl, by kernel_rfl⟩
noncomputable def ti168 : TI := { desc := Tryz.t168.desc, size := 0, bytes := 0, agg := true, zero := some (.agg []), eqOk := true }
theorem tok168 : TyRow Tryz.prog 396 168 ti168 := ⟨by kernel_rfl, by kernel_rfl, by kernel_rfl⟩
noncomputable def ti169 : TI := { desc := Tryz.t168.desc, size := 0, bytes := 0, agg := true, zero := some (.agg []), eqOk := true }
theorem tok169 : TyRow Tryz.prog 396 169 ti169 := ⟨by kernel_rfl, by kernel_rfl, by kernel_rfl⟩
noncomputable def ti170 : TI := { desc := Tryz.t170.desc, size := 1, bytes := 0, agg := false, zero := none, eqOk := false }
theorem tok170 : TyRow Tryz.prog 396 170 ti170 := ⟨by kernel_rfl, by kernel_rfl, by kernel_rfl⟩
noncomputable def ti171 : TI := { desc := Tryz.t171.desc, size := 1, bytes := 8, agg := false, zero := some .pnil, eqOk := true }
theorem tok171 : TyRow Tryz.prog 396 171 ti171 := ⟨by kernel_rfl, by kernel_rfl, by kernel_rfl⟩
noncomputable def ti172 : TI := { desc := Tryz.t172.desc, size := 23, bytes := 368, agg := true, zero := some (.agg [.pnil, (.int .i64 (0)), (.int .i64 (0)), (.int .i64 (0)), .snil, (.int .i64 (0)), (.int .i64 (0)), (.int .i64 (0)), .snil, (.bool false), .snil, (.int .i64 (0)), (.str []), .snil, .snil, .snil, (.str []), .snil, (.str []), .snil, (.str []), .snil, (.str [])]), eqOk := false }
theorem tok172 : TyRow Tryz.prog 396 172 ti172 := ⟨by kernel_rfl, by kernel_rfl, by kernel_rfl⟩
noncomputable def ti173 : TI := { desc := Tryz.t172.desc, size := 23, bytes := 368, agg := true, zero := some (.agg [.pnil, (.int .i64 (0)), (.int .i64 (0)), (.int .i64 (0)), .snil, (.int .i64 (0)), (.int .i64 (0)), (.int .i64 (0)), .snil, (.bool false), .snil, (.int .i64 (0)), (.str []), .snil, .snil, .snil, (.str []), .snil, (.str []), .snil, (.str []), .snil, (.str [])]), eqOk := false }
theorem tok173 : TyRow Tryz.prog 396 173 ti173 := ⟨by kernel_rfl, by kernel_rfl, by kernel_rfl⟩
noncomputable def ti174 : TI := { desc := Tryz.t174.desc, size := 10, bytes := 80, agg := true, zero := some (.agg [.nilFunc, .nilFunc, .nilFunc, .nilFunc, .nilFunc, .nilFunc, .nilFunc, .nilFunc, .nilFunc, .nilFunc]), eqOk := false }
theorem tok174 : TyRow Tryz.prog 396 174 ti174 := ⟨by kernel_rfl, by kernel_rfl, by kernel_rfl⟩
noncomputable def ti175 : TI := { desc := Tryz.t175.desc, size := 1, bytes := 8, agg := false, zero := some .nilFunc, eqOk := false }
theorem tok175 : TyRow Tryz.prog 396 175 ti175 := ⟨by kernel_rfl, by kernel_rfl, by kernel_rfl⟩
noncomputable def ti176 : TI := { desc := Tryz.t176.desc, size := 1, bytes := 0, agg := false, zero := some (.tup [.snil, .snil, (.bool false)]), eqOk := false }
theorem tok176 : TyRow Tryz.prog 396 176 ti176 := ⟨by kernel_rfl, by kernel_rfl, by kernel_rfl⟩
noncomputable def ti177 : TI := { desc := Tryz.t177.desc, size := 1, bytes := 8, agg := false, zero := some .nilFunc, eqOk := false }
theorem tok177 : TyRow Tryz.prog 396 177 ti177 := ⟨by kernel_rfl, by kernel_rfl, by kernel_rfl⟩
noncomputable def ti178 : TI := { desc := Tryz.t41.desc, size := 1, bytes := 24, agg := false, zero := some .snil, eqOk := false }
theorem tok178 : TyRow Tryz.prog 396 178 ti178 := ⟨by kernel_rfl, by kernel_rfl, by kernel_rfl⟩
noncomputable def ti179 : TI := { desc := Tryz.t179.desc, size := 1, bytes := 8, agg := false, zero := some .nilFunc, eqOk := false }
theorem tok179 : TyRow Tryz.prog 396 179 ti179 := ⟨by kernel_rfl, by kernel_rfl, by kernel_rfl⟩
noncomputable def ti180 : TI := { desc := Tryz.t180.desc, size := 1, bytes := 8, agg := false, zero := some .nilFunc, eqOk := false }
theorem tok180 : TyRow Tryz.prog 396 180 ti180 := ⟨by kernel_rfl, by kernel_rfl, by kernel_rfl⟩
noncomputable def ti181 : TI := { desc := Tryz.t181.desc, size := 1, bytes := 8, agg := false, zero := some .nilFunc, eqOk := false }
theorem tok181 : TyRow Tryz.prog 396 181 ti181 := ⟨by kernel_rfl, by kernel_rfl, by kernel_rfl⟩
noncomputable def ti182 : TI := { desc := Tryz.t182.desc, size := 1, bytes := 8, agg := false, zero := some (.int .u64 (0)), eqOk := true }
theorem tok182 : TyRow Tryz.prog 396 182 ti182 := ⟨by kernel_rfl, by kernel_rfl, by kernel_rfl⟩
noncomputable def ti183 : TI := { desc := Tryz.t183.desc, size := 1, bytes := 8, agg := false, zero := some .nilFunc, eqOk := false }
theorem tok183 : TyRow Tryz.prog 396 183 ti183 := ⟨by kernel_rfl, by kernel_rfl, by kernel_rfl⟩
noncomputable def ti184 : TI := { desc := Tryz.t184.desc, size := 1, bytes := 0, agg := false, zero := some (.tup [(.str []), (.str []), (.bool false)]), eqOk := false }
theorem tok184 : TyRow Tryz.prog 396 184 ti184 := ⟨by kernel_rfl, by kernel_rfl, by kernel_rfl⟩
noncomputable def ti185 : TI := { desc := Tryz.t185.desc, size := 1, bytes := 8, agg := false, zero := some .nilFunc, eqOk := false }
theorem tok185 : TyRow Tryz.prog 396 185 ti185 := ⟨by kernel_rfl, by kernel_rfl, by kernel_rfl⟩
noncomputable def ti186 : TI := { desc := Tryz.t186.desc, size := 1, bytes := 8, agg := false, zero := some .nilFunc, eqOk := false }
theorem tok186 : TyRow Tryz.prog 396 186 ti186 := ⟨by kernel_rfl, by kernel_rfl, by kernel_rfl⟩
noncomputable def ti187 : TI := { desc := Tryz.t187.desc, size := 1, bytes := 8, agg := false, zero := some .nilFunc, eqOk := false }
theorem tok187 : TyRow Tryz.prog 396 187 ti187 := ⟨by kernel_rfl, by kernel_rfl, by kernel_rfl⟩
noncomputable def ti188 : TI := { desc := Tryz.t188.desc, size := 1, bytes := 8, agg := false, zero := some .nilFunc, eqOk := false }
theorem tok188 : TyRow Tryz.prog 396 188 ti188 := ⟨by kernel_rfl, by kernel_rfl, by kernel_rfl⟩
noncomputable def ti189 : TI := { desc := Tryz.t189.desc, size := 90, bytes := 160, agg := true, zero := some (.agg [(.int .i64 (0)), (.bool false), (.bool false), (.bool false), (.bool false), (.bool false), (.bool false), (.bool false), (.bool false), (.int .i64 (0)), (.bool false), (.bool false), (.bool false), (.bool false), (.bool false), (.bool false), (.bool false), (.bool false), (.int .i64 (0)), (.bool false), (.bool false), (.bool false), (.bool false), (.bool false), (.bool false), (.bool false), (.bool false), (.int .i64 (0)), (.bool false), (.bool false), (.bool false), (.bool false), (.bool false), (.bool false), (.bool false), (.bool false), (.int .i64 (0)), (.bool false), (.bool false), (.bool false), (.bool false), (.bool false), (.bool false), (.bool false), (.bool false), (.int .i64 (0)), (.bool false), (.bool false), (.bool false), (.bool false), (.bool false), (.bool false), (.bool false), (.bool false), (.int .i64 (0)), (.bool false), (.bool false), (.bool false), (.bool false), (.bool false), (.bool false), (.bool false), (.bool false), (.int .i64 (0)), (.bool false), (.bool false), (.bool false), (.bool false), (.bool false), (.bool false), (.bool false), (.bool false), (.int .i64 (0)), (.bool false), (.bool false), (.bool false), (.bool false), (.bool false), (.bool false), (.bool false), (.bool false), (.int .i64 (0)), (.bool false), (.bool false), (.bool false), (.bool false), (.bool false), (.bool false), (.bool false), (.bool false)]), eqOk := true }
theorem tok189 : TyRow Tryz.prog 396 189 ti189 := ⟨by kernel_rfl, by kernel_rfl, by kernel_rfl⟩
noncomputable def ti190 : TI := { desc := Tryz.t190.desc, size := 1, bytes := 8, agg := false, zero := some .nilFunc, eqOk := false }
theorem tok190 : TyRow Tryz.prog 396 190 ti190 := ⟨by kernel_rfl, by kernel_rfl, by kernel_rfl⟩
noncomputable def ti191 : TI := { desc := Tryz.t191.desc, size := 1, bytes := 8, agg := false, zero := some .pnil, eqOk := true }
theorem tok191 : TyRow Tryz.prog 396 191 ti191 := ⟨by kernel_rfl, by kernel_rfl, by kernel_rfl⟩
noncomputable def ti192 : TI := { desc := Tryz.t192.desc, size := 1, bytes := 8, agg := false, zero := some .nilFunc, eqOk := false }
theorem tok192 : TyRow Tryz.prog 396 192 ti192 := ⟨by kernel_rfl, by kernel_rfl, by kernel_rfl⟩
noncomputable def ti193 : TI := { desc := Tryz.t193.desc, size := 1, bytes := 8, agg := false, zero := some .nilFunc, eqOk := false }
theorem tok193 : TyRow Tryz.prog 396 193 ti193 := ⟨by kernel_rfl, by kernel_rfl, by kernel_rfl⟩
noncomputable def ti194 : TI := { desc := Tryz.t194.desc, size := 1, bytes := 8, agg := false, zero := some .nilFunc, eqOk := false }
theorem tok194 : TyRow Tryz.prog 396 194 ti194 := ⟨by kernel_rfl, by kernel_rfl, by kernel_rfl⟩
noncomputable def ti195 : TI := { desc := Tryz.t195.desc, size := 1, bytes := 8, agg := false, zero := some .nilFunc, eqOk := false }
theorem tok195 : TyRow Tryz.prog 396 195 ti195 := ⟨by kernel_rfl, by kernel_rfl, by kernel_rfl⟩
noncomputable def ti196 : TI := { desc := Tryz.t195.desc, size := 1, bytes := 8, agg := false, zero := some .nilFunc, eqOk := false }
theorem tok196 : TyRow Tryz.prog 396 196 ti196 := ⟨by kernel_rfl, by kernel_rfl, by kernel_rfl⟩
noncomputable def ti197 : TI := { desc := Tryz.t197.desc, size := 1, bytes := 8, agg := false, zero := some .nilFunc, eqOk := false }
theorem tok197 : TyRow Tryz.prog 396 197 ti197 := ⟨by kernel_rfl, by kernel_rfl, by kernel_rfl⟩
noncomputable def ti198 : TI := { desc := Tryz.t198.desc, size := 1, bytes := 8, agg := false, zero := some .nilFunc, eqOk := false }
theorem tok198 : TyRow Tryz.prog 396 198 ti198 := ⟨by kernel_rfl, by kernel_rfl, by kernel_rfl⟩
noncomputable def ti199 : TI := { desc := Tryz.t199.desc, size := 1, bytes := 8, agg := false, zero := some .nilFunc, eqOk := false }
theorem tok199 : TyRow Tryz.prog 396 199 ti199 := ⟨by kernel_rfl, by kernel_rfl, by kernel_rfl⟩
noncomputable def ti200 : TI := { desc := Tryz.t200.desc, size := 1, bytes := 8, agg := false, zero := some .nilFunc, eqOk := false }
theorem tok200 : TyRow Tryz.prog 396 200 ti200 := ⟨by kernel_rfl, by kernel_rfl, by kernel_rfl⟩
noncomputable def ti201 : TI := { desc := Tryz.t201.desc, size := 1, bytes := 8, agg := false, zero := some .nilFunc, eqOk := false }
theorem tok201 : TyRow Tryz.prog 396 201 ti201 := ⟨by kernel_rfl, by kernel_rfl, by kernel_rfl⟩
noncomputable def ti202 : TI := { desc := Tryz.t202.desc, size := 1, bytes := 8, agg := false, zero := some .nilFunc, eqOk := false }
theorem tok202 : TyRow Tryz.prog 396 202 ti202 := ⟨by kernel_rfl, by kernel_rfl, by kernel_rfl⟩
noncomputable def ti203 : TI := { desc := Tryz.t203.desc, size := 1, bytes := 24, agg := false, zero := some .snil, eqOk := false }
theorem tok203 : TyRow Tryz.prog 396 203 ti203 := ⟨by kernel_rfl, by kernel_rfl, by kernel_rfl⟩
noncomputable def ti204 : TI := { desc := Tryz.t204.desc, size := 1, bytes := 8, agg := false, zero := some .nilFunc, eqOk := false }
theorem tok204 : TyRow Tryz.prog 396 204 ti204 := ⟨by kernel_rfl, by kernel_rfl, by kernel_rfl⟩
noncomputable def ti205 : TI := { desc := Tryz.t205.desc, size := 1, bytes := 8, agg := false, zero := some .nilFunc, eqOk := false }
theorem tok205 : TyRow Tryz.prog 396 205 ti205 := ⟨by kernel_rfl, by kernel_rfl, by kernel_rfl⟩
noncomputable def ti206 : TI := { desc := Tryz.t206.desc, size := 1, bytes := 0, agg := false, zero := some (.tup [(.int .i64 (0)), (.bool false)]), eqOk := false }
theorem tok206 : TyRow Tryz.prog 396 206 ti206 := ⟨by kernel_rfl, by kernel_rfl, by kernel_rfl⟩
noncomputable def ti207 : TI := { desc := Tryz.t207.desc, size := 1, bytes := 8, agg := false, zero := some .nilFunc, eqOk := false }
theorem tok207 : TyRow Tryz.prog 396 207 ti207 := ⟨by kernel_rfl, by kernel_rfl, by kernel_rfl⟩
noncomputable def ti208 : TI := { desc := Tryz.t208.desc, size := 1, bytes := 0, agg := false, zero := some (.tup [(.bool false), (.str []), (.bool false)]), eqOk := false }
theorem tok208 : TyRow Tryz.prog 396 208 ti208 := ⟨by kernel_rfl, by kernel_rfl, by kernel_rfl⟩
noncomputable def ti209 : TI := { desc := Tryz.t209.desc, size := 1, bytes := 8, agg := false, zero := some .nilFunc, eqOk := false }
theorem tok209 : TyRow Tryz.prog 396 209 ti209 := ⟨by kernel_rfl, by kernel_rfl, by kernel_rfl⟩
noncomputable def ti210 : TI := { desc := Tryz.t210.desc, size := 1, bytes := 8, agg := false, zero := some .nilFunc, eqOk := false }
theorem tok210 : TyRow Tryz.prog 396 210 ti210 := ⟨by kernel_rfl, by kernel_rfl, by kernel_rfl⟩
noncomputable def ti211 : TI := { desc := Tryz.t211.desc, size := 1, bytes := 4, agg := false, zero := some (.int .u32 (0)), eqOk := true }
theorem tok211 : TyRow Tryz.prog 396 211 ti211 := ⟨by kernel_rfl, by kernel_rfl, by kernel_rfl⟩
noncomputable def ti212 : TI := { desc := Tryz.t212.desc, size := 1, bytes := 8, agg := false, zero := some (.int .u64 (0)), eqOk := true }
theorem tok212 : TyRow Tryz.prog 396 212 ti212 := ⟨by kernel_rfl, by kernel_rfl, by kernel_rfl⟩
noncomputable def ti213 : TI := { desc := Tryz.t213.desc, size := 1, bytes := 8, agg := false, zero := some .nilFunc, eqOk := false }
theorem tok213 : TyRow Tryz.prog 396 213 ti213 := ⟨by kernel_rfl, by kernel_rfl, by kernel_rfl⟩
noncomputable def ti214 : TI := { desc := Tryz.t214.desc, size := 1, bytes := 8, agg := false, zero := some .nilFunc, eqOk := false }
theorem tok214 : TyRow Tryz.prog 396 214 ti214 := ⟨by kernel_rfl, by kernel_rfl, by kernel_rfl⟩
noncomputable def ti215 : TI := { desc := Tryz.t215.desc, size := 1, bytes := 8, agg := false, zero := some .nilFunc, eqOk := false }
theorem tok215 : TyRow Tryz.prog 396 215 ti215 := ⟨by kernel_rfl, by kernel_rfl, by kernel_rfl⟩
noncomputable def ti216 : TI := { desc := Tryz.t216.desc, size := 1, bytes := 8, agg := false, zero := some .nilFunc, eqOk := false }
theorem tok216 : TyRow Tryz.prog 396 216 ti216 := ⟨by kernel_rfl, by kernel_rfl, by kernel_rfl⟩
noncomputable def ti217 : TI := { desc := Tryz.t217.desc, size := 1, bytes := 8, agg := false, zero := some .nilFunc, eqOk := false }
theorem tok217 : TyRow Tryz.prog 396 217 ti217 := ⟨by kernel_rfl, by kernel_rfl, by kernel_rfl⟩
noncomputable def ti218 : TI := { desc := Tryz.t218.desc, size := 1, bytes := 8, agg := false, zero := some .nilFunc, eqOk := false }
theorem tok218 : TyRow Tryz.prog 396 218 ti218 := ⟨by kernel_rfl, by kernel_rfl, by kernel_rfl⟩
noncomputable def ti219 : TI := { desc := Tryz.t219.desc, size := 1, bytes := 8, agg := false, zero := some .nilFunc, eqOk := false }
theorem tok219 : TyRow Tryz.prog 396 219 ti219 := ⟨by kernel_rfl, by kernel_rfl, by kernel_rfl⟩
noncomputable def ti220 : TI := { desc := Tryz.t220.desc, size := 1, bytes := 8, agg := false, zero := some .nilFunc, eqOk := false }
theorem tok220 : TyRow Tryz.prog 396 220 ti220 := ⟨by kernel_rfl, by kernel_rfl, by kernel_rfl⟩
noncomputable def ti221 : TI := { desc := Tryz.t221.desc, size := 1, bytes := 0, agg := false, zero := some (.tup [.snil, (.int .i64 (0))]), eqOk := false }
theorem tok221 : TyRow Tryz.prog 396 221 ti221 := ⟨by kernel_rfl, by kernel_rfl, by kernel_rfl⟩
noncomputable def ti222 : TI := { desc := Tryz.t222.desc, size := 1, bytes := 8, agg := false, zero := some .nilFunc, eqOk := false }
theorem tok222 : TyRow Tryz.prog 396 222 ti222 := ⟨by kernel_rfl, by kernel_rfl, by kernel_rfl⟩
noncomputable def ti223 : TI := { desc := Tryz.t223.desc, size := 1, bytes := 8, agg := false, zero := some .nilFunc, eqOk := false }
theorem tok223 : TyRow Tryz.prog 396 223 ti223 := ⟨by kernel_rfl, by kernel_rfl, by kernel_rfl⟩
noncomputable def ti224 : TI := { desc := Tryz.t224.desc, size := 1, bytes := 8, agg := false, zero := some .nilFunc, eqOk := false }
theorem tok224 : TyRow Tryz.prog 396 224 ti224 := ⟨by kernel_rfl, by kernel_rfl, by kernel_rfl⟩
noncomputable def ti225 : TI := { desc := Tryz.t225.desc, size := 1, bytes := 8, agg := false, zero := some .pnil, eqOk := true }
theorem tok225 : TyRow Tryz.prog 396 225 ti225 := ⟨by kernel_rfl, by kernel_rfl, by kernel_rfl⟩
noncomputable def ti226 : TI := { desc := Tryz.t226.desc, size := 1, bytes := 8, agg := false, zero := some .nilFunc, eqOk := false }
theorem tok226 : TyRow Tryz.prog 396 226 ti226 := ⟨by kernel_rfl, by kernel_rfl, by kernel_rfl⟩
noncomputable def ti227 : TI := { desc := Tryz.t227.desc, size := 1, bytes := 8, agg := false, zero := some .nilFunc, eqOk := false }
theorem tok227 : TyRow Tryz.prog 396 227 ti227 := ⟨by kernel_rfl, by kernel_rfl, by kernel_rfl⟩
noncomputable def ti228 : TI := { desc := Tryz.t228.desc, size := 1, bytes := 8, agg := false, zero := some .nilFunc, eqOk := false }
theorem tok228 : TyRow Tryz.prog 396 228 ti228 := ⟨by kernel_rfl, by kernel_rfl, by kernel_rfl⟩
noncomputable def ti229 : TI := { desc := Tryz.t229.desc, size := 1, bytes := 8, agg := false, zero := some .nilFunc, eqOk := false }
theorem tok229 : TyRow Tryz.prog 396 229 ti229 := ⟨by kernel_rfl, by kernel_rfl, by kernel_rfl⟩
noncomputable def ti230 : TI := { desc := Tryz.t230.desc, size := 1, bytes := 8, agg := false, zero := some .nilFunc, eqOk := false }
theorem tok230 : TyRow Tryz.prog 396 230 ti230 := ⟨by kernel_rfl, by kernel_rfl, by kernel_rfl⟩
noncomputable def ti231 : TI := { desc := Tryz.t231.desc, size := 1, bytes := 8, agg := false, zero := some .nilFunc, eqOk := false }
theorem tok231 : TyRow Tryz.prog 396 231 ti231 := ⟨by kernel_rfl, by kernel_rfl, by kernel_rfl⟩
noncomputable def ti232 : TI := { desc := Tryz.t232.desc, size := 1, bytes := 8, agg := false, zero := some .nilFunc, eqOk := false }
theorem tok232 : TyRow Tryz.prog 396 232 ti232 := ⟨by kernel_rfl, by kernel_rfl, by kernel_rfl⟩
noncomputable def ti233 : TI := { desc := Tryz.t233.desc, size := 1, bytes := 8, agg := false, zero := some .nilFunc, eqOk := false }
theorem tok233 : TyRow Tryz.prog 396 233 ti233 := ⟨by kernel_rfl, by kernel_rfl, by kernel_rfl⟩
noncomputable def ti234 : TI := { desc := Tryz.t3.desc, size := 1, bytes := 8, agg := false, zero := some (.int .i64 (0)), eqOk := true }
theorem tok234 : TyRow Tryz.prog 396 234 ti234 := ⟨by kernel_rfl, by kernel_rfl, by kernel_rfl⟩
noncomputable def ti235 : TI := { desc := Tryz.t235.desc, size := 1, bytes := 0, agg := false, zero := some (.tup [(.int .i64 (0)), (.int .i64 (0))]), eqOk := false }
theorem tok235 : TyRow Tryz.prog 396 235 ti235 := ⟨by kernel_rfl, by kernel_rfl, by kernel_rfl⟩
noncomputable def ti236 : TI := { desc := Tryz.t236.desc, size := 1, bytes := 8, agg := false, zero := some .nilFunc, eqOk := false }
theorem tok236 : TyRow Tryz.prog 396 236 ti236 := ⟨by kernel_rfl, by kernel_rfl, by kernel_rfl⟩
noncomputable def ti237 : TI := { desc := Tryz.t237.desc, size := 1, bytes := 8, agg := false, zero := some .nilFunc, eqOk := false }
theorem tok237 : TyRow Tryz.prog 396 237 ti237 := ⟨by kernel_rfl, by kernel_rfl, by kernel_rfl⟩
noncomputable def ti238 : TI := { desc := Tryz.t238.desc, size := 1, bytes := 8, agg := false, zero := some .nilFunc, eqOk := false }
theorem tok238 : TyRow Tryz.prog 396 238 ti238 := ⟨by kernel_rfl, by kernel_rfl, by kernel_rfl⟩
noncomputable def ti239 : TI := { desc := Tryz.t239.desc, size := 1, bytes := 8, agg := false, zero := some .nilFunc, eqOk := false }
theorem tok239 : TyRow Tryz.prog 396 239 ti239 := ⟨by kernel_rfl, by kernel_rfl, by kernel_rfl⟩
noncomputable def ti240 : TI := { desc := Tryz.t240.desc, size := 1, bytes := 8, agg := false, zero := some .nilFunc, eqOk := false }
theorem tok240 : TyRow Tryz.prog 396 240 ti240 := ⟨by kernel_rfl, by kernel_rfl, by kernel_rfl⟩
noncomputable def ti241 : TI := { desc := Tryz.t241.desc, size := 1, bytes := 8, agg := false, zero := some .nilFunc, eqOk := false }
theorem tok241 : TyRow Tryz.prog 396 241 ti241 := ⟨by kernel_rfl, by kernel_rfl, by kernel_rfl⟩
noncomputable def ti242 : TI := { desc := Tryz.t242.desc, size := 1, bytes := 8, agg := false, zero := some .nilFunc, eqOk := false }
theorem tok242 : TyRow Tryz.prog 396 242 ti242 := ⟨by kernel_rfl, by kernel_rfl, by kernel_rfl⟩
noncomputable def ti243 : TI := { desc := Tryz.t243.desc, size := 1, bytes := 8, agg := false, zero := some .nilFunc, eqOk := false }
theorem tok243 : TyRow Tryz.prog 396 243 ti243 := ⟨by kernel_rfl, by kernel_rfl, by kernel_rfl⟩
noncomputable def ti244 : TI := { desc := Tryz.t244.desc, size := 1, bytes := 8, agg := false, zero := some .nilFunc, eqOk := false }
theorem tok244 : TyRow Tryz.prog 396 244 ti244 := ⟨by kernel_rfl, by kernel_rfl, by kernel_rfl⟩
noncomputable def ti245 : TI := { desc := Tryz.t245.desc, size := 1, bytes := 0, agg := false, zero := some (.tup [.snil, (.bool false)]), eqOk := false }
theorem tok245 : TyRow Tryz.prog 396 245 ti245 := ⟨by kernel_rfl, by kernel_rfl, by kernel_rfl⟩
noncomputable def ti246 : TI := { desc := Tryz.t246.desc, size := 1, bytes := 8, agg := false, zero := some .nilFunc, eqOk := false }
theorem tok246 : TyRow Tryz.prog 396 246 ti246 := ⟨by kernel_rfl, by kernel_rfl, by kernel_rfl⟩
noncomputable def ti247 : TI := { desc := Tryz.t247.desc, size := 1, bytes := 8, agg := false, zero := some .nilFunc, eqOk := false }
theorem tok247 : TyRow Tryz.prog 396 247 ti247 := ⟨by kernel_rfl, by kernel_rfl, by kernel_rfl⟩
noncomputable def ti248 : TI := { desc := Tryz.t248.desc, size := 11, bytes := 192, agg := true, zero := some (.agg [.snil, .snil, (.str []), (.int .i64 (0)), (.int .i64 (0)), .snil, .snil, (.int .i64 (0)), (.bool false), .snil, .snil]), eqOk := false }
theorem tok248 : TyRow Tryz.prog 396 248 ti248 := ⟨by kernel_rfl, by kernel_rfl, by kernel_rfl⟩
noncomputable def ti249 : TI := { desc := Tryz.t248.desc, size := 11, bytes := 192, agg := true, zero := some (.agg [.snil, .snil, (.str []), (.int .i64 (0)), (.int .i64 (0)), .snil, .snil, (.int .i64 (0)), (.bool false), .snil, .snil]), eqOk := false }
theorem tok249 : TyRow Tryz.prog 396 249 ti249 := ⟨by kernel_rfl, by kernel_rfl, by kernel_rfl⟩
noncomputable def ti250 : TI := { desc := Tryz.t250.desc, size := 1, bytes := 8, agg := false, zero := some .nilFunc, eqOk := false }
theorem tok250 : TyRow Tryz.prog 396 250 ti250 := ⟨by kernel_rfl, by kernel_rfl, by kernel_rfl⟩
noncomputable def ti251 : TI := { desc := Tryz.t251.desc, size := 2, bytes := 48, agg := true, zero := some (.agg [.snil, .snil]), eqOk := false }
theorem tok251 : TyRow Tryz.prog 396 251 ti251 := ⟨by kernel_rfl, by kernel_rfl, by kernel_rfl⟩
noncomputable def ti252 : TI := { desc := Tryz.t251.desc, size := 2, bytes := 48, agg := true, zero := some (.agg [.snil, .snil]), eqOk := false }
theorem tok252 : TyRow Tryz.prog 396 252 ti252 := ⟨by kernel_rfl, by kernel_rfl, by kernel_rfl⟩
noncomputable def ti253 : TI := { desc := Tryz.t253.desc, size := 1, bytes := 8, agg := false, zero := some .nilFunc, eqOk := false }
theorem tok253 : TyRow Tryz.prog 396 253 ti253 := ⟨by kernel_rfl, by kernel_rfl, by kernel_rfl⟩
noncomputable def ti254 : TI := { desc := Tryz.t254.desc, size := 1, bytes := 8, agg := false, zero := some .nilFunc, eqOk := false }
theorem tok254 : TyRow Tryz.prog 396 254 ti254 := ⟨by kernel_rfl, by kernel_rfl, by kernel_rfl⟩
noncomputable def ti255 : TI := { desc := Tryz.t255.desc, size := 1, bytes := 8, agg := false, zero := some .nilFunc, eqOk := false }
theorem tok255 : TyRow Tryz.prog 396 255 ti255 := ⟨by kernel_rfl, by kernel_rfl, by kernel_rfl⟩
noncomputable def ti256 : TI := { desc := Tryz.t256.desc, size := 1, bytes := 8, agg := false, zero := some .nilFunc, eqOk := false }
theorem tok256 : TyRow Tryz.prog 396 256 ti256 := ⟨by kernel_rfl, by kernel_rfl, by kernel_rfl⟩
noncomputable def ti257 : TI := { desc := Tryz.t257.desc, size := 1, bytes := 8, agg := false, zero := some .nilFunc, eqOk := false }
theorem tok257 : TyRow Tryz.prog 396 257 ti257 := ⟨by kernel_rfl, by kernel_rfl, by kernel_rfl⟩
noncomputable def ti258 : TI := { desc := Tryz.t258.desc, size := 1, bytes := 8, agg := false, zero := some .nilFunc, eqOk := false }
theorem tok258 : TyRow Tryz.prog 396 258 ti258 := ⟨by kernel_rfl, by kernel_rfl, by kernel_rfl⟩
noncomputable def ti259 : TI := { desc := Tryz.t259.desc, size := 1, bytes := 8, agg := false, zero := some .nilFunc, eqOk := false }
theorem tok259 : TyRow Tryz.prog 396 259 ti259 := ⟨by kernel_rfl, by kernel_rfl, by kernel_rfl⟩
noncomputable def ti260 : TI := { desc := Tryz.t260.desc, size := 1, bytes := 8, agg := false, zero := some .nilFunc, eqOk := false }
theorem tok260 : TyRow Tryz.prog 396 260 ti260 := ⟨by kernel_rfl, by kernel_rfl, by kernel_rfl⟩
noncomputable def ti261 : TI := { desc := Tryz.t261.desc, size := 1, bytes := 8, agg := false, zero := some .nilFunc, eqOk := false }
theorem tok261 : TyRow Tryz.prog 396 261 ti261 := ⟨by kernel_rfl, by kernel_rfl, by kernel_rfl⟩
noncomputable def ti262 : TI := { desc := Tryz.t262.desc, size := 1, bytes := 8, agg := false, zero := some .nilFunc, eqOk := false }
theorem tok262 : TyRow Tryz.prog 396 262 ti262 := ⟨by kernel_rfl, by kernel_rfl, by kernel_rfl⟩
noncomputable def ti263 : TI := { desc := Tryz.t263.desc, size := 1, bytes := 8, agg := false, zero := some .nilFunc, eqOk := false }
theorem tok263 : TyRow Tryz.prog 396 263 ti263 := ⟨by kernel_rfl, by kernel_rfl, by kernel_rfl⟩
noncomputable def ti264 : TI := { desc := Tryz.t264.desc, size := 2, bytes := 16, agg := true, zero := some (.agg [(.int .i64 (0)), (.int .i64 (0))]), eqOk := true }
theorem tok264 : TyRow Tryz.prog 396 264 ti264 := ⟨by kernel_rfl, by kernel_rfl, by kernel_rfl⟩
noncomputable def ti265 : TI := { desc := Tryz.t264.desc, size := 2, bytes := 16, agg := true, zero := some (.agg [(.int .i64 (0)), (.int .i64 (0))]), eqOk := true }
theorem tok265 : TyRow Tryz.prog 396 265 ti265 := ⟨by kernel_rfl, by kernel_rfl, by kernel_rfl⟩
noncomputable def ti266 : TI := { desc := Tryz.t266.desc, size := 1, bytes := 0, agg := false, zero := some (.tup [(.str []), (.bool false)]), eqOk := false }
theorem tok266 : TyRow Tryz.prog 396 266 ti266 := ⟨by kernel_rfl, by kernel_rfl, by kernel_rfl⟩
noncomputable def ti267 : TI := { desc := Tryz.t267.desc, size := 1, bytes := 8, agg := false, zero := some .nilFunc, eqOk := false }
theorem tok267 : TyRow Tryz.prog 396 267 ti267 := ⟨by kernel_rfl, by kernel_rfl, by kernel_rfl⟩
noncomputable def ti268 : TI := { desc := Tryz.t268.desc, size := 1, bytes := 16, agg := false, zero := some .nilIface, eqOk := true }
theorem tok268 : TyRow Tryz.prog 396 268 ti268 := ⟨by kernel_rfl, by kernel_rfl, by kernel_rfl⟩
noncomputable def ti269 : TI := { desc := Tryz.t268.desc, size := 1, bytes := 16, agg := false, zero := some .nilIface, eqOk := true }
theorem tok269 : TyRow Tryz.prog 396 269 ti269 := ⟨by kernel_rfl, by kernel_rfl, by kernel_rfl⟩
noncomputable def ti270 : TI := { desc := Tryz.t270.desc, size := 1, bytes := 0, agg := false, zero := some (.tup [(.int .i64 (0)), .nilIface]), eqOk := false }
theorem tok270 : TyRow Tryz.prog 396 270 ti270 := ⟨by kernel_rfl, by kernel_rfl, by kernel_rfl⟩
noncomputable def ti271 : TI := { desc := Tryz.t271.desc, size := 1, bytes := 8, agg := false, zero := some .nilFunc, eqOk := false }
theorem tok271 : TyRow Tryz.prog 396 271 ti271 := ⟨by kernel_rfl, by kernel_rfl, by kernel_rfl⟩
noncomputable def ti272 : TI := { desc := Tryz.t272.desc, size := 1, bytes := 0, agg := false, zero := some (.tup [.snil, .snil]), eqOk := false }
theorem tok272 : TyRow Tryz.prog 396 272 ti272 := ⟨by kernel_rfl, by kernel_rfl, by kernel_rfl⟩
noncomputable def ti273 : TI := { desc := Tryz.t273.desc, size := 1, bytes := 8, agg := false, zero := some .nilFunc, eqOk := false }
theorem tok273 : TyRow Tryz.prog 396 273 ti273 := ⟨by kernel_rfl, by kernel_rfl, by kernel_rfl⟩
noncomputable def ti274 : TI := { desc := Tryz.t274.desc, size := 1, bytes := 0, agg := false, zero := some (.tup [(.str []), (.int .i64 (0))]), eqOk := false }
theorem tok274 : TyRow Tryz.prog 396 274 ti274 := ⟨by kernel_rfl, by kernel_rfl, by kernel_rfl⟩
noncomputable def ti275 : TI := { desc := Tryz.t275.desc, size := 1, bytes := 8, agg := false, zero := some .nilFunc, eqOk := false }
theorem tok275 : TyRow Tryz.prog 396 275 ti275 := ⟨by kernel_rfl, by kernel_rfl, by kernel_rfl⟩
noncomputable def ti276 : TI := { desc := Tryz.t276.desc, size := 1, bytes := 8, agg := false, zero := some .nilFunc, eqOk := false }
theorem tok276 : TyRow Tryz.prog 396 276 ti276 := ⟨by kernel_rfl, by kernel_rfl, by kernel_rfl⟩
noncomputable def ti277 : TI := { desc := Tryz.t277.desc, size := 1, bytes := 8, agg := false, zero := some .nilFunc, eqOk := false }
theorem tok277 : TyRow Tryz.prog 396 277 ti277 := ⟨by kernel_rfl, by kernel_rfl, by kernel_rfl⟩
noncomputable def ti278 : TI := { desc := Tryz.t278.desc, size := 1, bytes := 8, agg := false, zero := some .nilFunc, eqOk := false }
theorem tok278 : TyRow Tryz.prog 396 278 ti278 := ⟨by kernel_rfl, by kernel_rfl, by kernel_rfl⟩
noncomputable def ti279 : TI := { desc := Tryz.t279.desc, size := 1, bytes := 8, agg := false, zero := some .nilFunc, eqOk := false }
theorem tok279 : TyRow Tryz.prog 396 279 ti279 := ⟨by kernel_rfl, by kernel_rfl, by kernel_rfl⟩
noncomputable def ti280 : TI := { desc := Tryz.t280.desc, size := 1, bytes := 8, agg := false, zero := some .nilFunc, eqOk := false }
theorem tok280 : TyRow Tryz.prog 396 280 ti280 := ⟨by kernel_rfl, by kernel_rfl, by kernel_rfl⟩
noncomputable def ti281 : TI := { desc := Tryz.t281.desc, size := 1, bytes := 8, agg := false, zero := some .nilFunc, eqOk := false }
theorem tok281 : TyRow Tryz.prog 396 281 ti281 := ⟨by kernel_rfl, by kernel_rfl, by kernel_rfl⟩
noncomputable def ti282 : TI := { desc := Tryz.t282.desc, size := 1, bytes := 8, agg := false, zero := some .nilFunc, eqOk := false }
theorem tok282 : TyRow Tryz.prog 396 282 ti282 := ⟨by kernel_rfl, by kernel_rfl, by kernel_rfl⟩
noncomputable def ti283 : TI := { desc := Tryz.t283.desc, size := 1, bytes := 8, agg := false, zero := some .nilFunc, eqOk := false }
theorem tok283 : TyRow Tryz.prog 396 283 ti283 := ⟨by kernel_rfl, by kernel_rfl, by kernel_rfl⟩
noncomputable def ti284 : TI := { desc := Tryz.t284.desc, size := 1, bytes := 8, agg := false, zero := some .mnil, eqOk := false }
theorem tok284 : TyRow Tryz.prog 396 284 ti284 := ⟨by kernel_rfl, by kernel_rfl, by kernel_rfl⟩
noncomputable def ti285 : TI := { desc := Tryz.t285.desc, size := 1, bytes := 0, agg := false, zero := some (.tup [.snil, (.int .i64 (0))]), eqOk := false }
theorem tok285 : TyRow Tryz.prog 396 285 ti285 := ⟨by kernel_rfl, by kernel_rfl, by kernel_rfl⟩
noncomputable def ti286 : TI := { desc := Tryz.t286.desc, size := 1, bytes := 8, agg := false, zero := some .nilFunc, eqOk := false }
theorem tok286 : TyRow Tryz.prog 396 286 ti286 := ⟨by kernel_rfl, by kernel_rfl, by kernel_rfl⟩
noncomputable def ti287 : TI := { desc := Tryz.t287.desc, size := 1, bytes := 8, agg := false, zero := some .nilFunc, eqOk := false }
theorem tok287 : TyRow Tryz.prog 396 287 ti287 := ⟨by kernel_rfl, by kernel_rfl, by kernel_rfl⟩
noncomputable def ti288 : TI := { desc := Tryz.t288.desc, size := 1, bytes := 8, agg := false, zero := some .nilFunc, eqOk := false }
theorem tok288 : TyRow Tryz.prog 396 288 ti288 := ⟨by kernel_rfl, by kernel_rfl, by kernel_rfl⟩
noncomputable def ti289 : TI := { desc := Tryz.t289.desc, size := 1, bytes := 8, agg := false, zero := some .pnil, eqOk := true }
theorem tok289 : TyRow Tryz.prog 396 289 ti289 := ⟨by kernel_rfl, by kernel_rfl, by kernel_rfl⟩
noncomputable def ti290 : TI := { desc := Tryz.t290.desc, size := 1, bytes := 24, agg := false, zero := some .snil, eqOk := false }
theorem tok290 : TyRow Tryz.prog 396 290 ti290 := ⟨by kernel_rfl, by kernel_rfl, by kernel_rfl⟩
noncomputable def ti291 : TI := { desc := Tryz.t212.desc, size := 1, bytes := 8, agg := false, zero := some (.int .u64 (0)), eqOk := true }
theorem tok291 : TyRow Tryz.prog 396 291 ti291 := ⟨by kernel_rfl, by kernel_rfl, by kernel_rfl⟩
noncomputable def ti292 : TI := { desc := Tryz.t292.desc, size := 1, bytes := 8, agg := false, zero := some .nilFunc, eqOk := false }
theorem tok292 : TyRow Tryz.prog 396 292 ti292 := ⟨by kernel_rfl, by kernel_rfl, by kernel_rfl⟩
noncomputable def ti293 : TI := { desc := Tryz.t293.desc, size := 1, bytes := 8, agg := false, zero := some .nilFunc, eqOk := false }
theorem tok293 : TyRow Tryz.prog 396 293 ti293 := ⟨by kernel_rfl, by kernel_rfl, by kernel_rfl⟩
noncomputable def ti294 : TI := { desc := Tryz.t294.desc, size := 1, bytes := 8, agg := false, zero := some .nilFunc, eqOk := false }
theorem tok294 : TyRow Tryz.prog 396 294 ti294 := ⟨by kernel_rfl, by kernel_rfl, by kernel_rfl⟩
noncomputable def ti295 : TI := { desc := Tryz.t295.desc, size := 1, bytes := 8, agg := false, zero := some .pnil, eqOk := true }
theorem tok295 : TyRow Tryz.prog 396 295 ti295 := ⟨by kernel_rfl, by kernel_rfl, by kernel_rfl⟩
noncomputable def ti296 : TI := { desc := Tryz.t296.desc, size := 1, bytes := 8, agg := false, zero := some .nilFunc, eqOk := false }
theorem tok296 : TyRow Tryz.prog 396 296 ti296 := ⟨by kernel_rfl, by kernel_rfl, by kernel_rfl⟩
noncomputable def ti297 : TI := { desc := Tryz.t297.desc, size := 1, bytes := 8, agg := false, zero := some .nilFunc, eqOk := false }
theorem tok297 : TyRow Tryz.prog 396 297 ti297 := ⟨by kernel_rfl, by kernel_rfl, by kernel_rfl⟩
noncomputable def ti298 : TI := { desc := Tryz.t298.desc, size := 256, bytes := 256, agg := true, zero := some (.agg [(.bool false), (.bool false), (.bool false), (.bool false), (.bool false), (.bool false), (.bool false), (.bool false), (.bool false), (.bool false), (.bool false), (.bool false), (.bool false), (.bool false), (.bool false), (.bool false), (.bool false), (.bool false), (.bool false), (.bool false), (.bool false), (.bool false), (.bool false), (.bool false), (.bool false), (.bool false), (.bool false), (.bool false), (.bool false), (.bool false), (.bool false), (.bool false), (.bool false), (.bool false), (.bool false), (.bool false), (.bool false), (.bool false), (.bool false), (.bool false), (.bool false), (.bool false), (.bool false), (.bool false), (.bool false), (.bool false), (.bool false), (.bool false), (.bool false), (.bool false), (.bool false), (.bool false), (.bool false), (.bool false), (.bool false), (.bool false), (.bool false), (.bool false), (.bool false), (.bool false), (.bool false), (.bool false), (.bool false), (.bool false), (.bool false), (.bool false), (.bool false), (.bool false), (.bool false), (.bool false), (.bool false), (.bool false), (.bool false), (.bool false), (.bool false), (.bool false), (.bool false), (.bool false), (.bool false), (.bool false), (.bool false), (.bool false), (.bool false), (.bool false), (.bool false), (.bool false), (.bool false), (.bool false), (.bool false), (.bool false), (.bool false), (.bool false), (.bool false), (.bool false), (.bool false), (.bool false), (.bool false), (.bool false), (.bool false), (.bool false), (.bool false), (.bool false), (.bool false), (.bool false), (.bool false), (.bool false), (.bool false), (.bool false), (.bool false), (.bool false), (.bool false), (.bool false), (.bool false), (.bool false), (.bool false), (.bool false), (.bool false), (.bool false), (.bool false), (.bool false), (.bool false), (.bool false), (.bool false), (.bool false), (.bool false), (.bool false), (.bool false), (.bool false), (.bool false), (.bool false), (.bool false), (.bool false), (.bool false), (.bool false), (.bool false), (.bool false), (.bool false), (.bool false), (.bool false), (.bool false), (.bool false), (.bool false), (.bool false), (.bool false), (.bool false), (.bool false), (.bool false), (.bool false), (.bool false), (.bool false), (.bool false), (.bool false), (.bool false), (.bool false), (.bool false), (.bool false), (.bool false), (.bool false), (.bool false), (.bool false), (.bool false), (.bool false), (.bool false), (.bool false), (.bool false), (.bool false), (.bool false), (.bool false), (.bool false), (.bool false), (.bool false), (.bool false), (.bool false), (.bool false), (.bool false), (.bool false), (.bool false), (.bool false), (.bool false), (.bool false), (.bool false), (.bool false), (.bool false), (.bool false), (.bool false), (.bool false), (.bool false), (.bool false), (.bool false), (.bool false), (.bool false), (.bool false), (.bool false), (.bool false), (.bool false), (.bool false), (.bool false), (.bool false), (.bool false), (.bool false), (.bool false), (.bool false), (.bool false), (.bool false), (.bool false), (.bool false), (.bool false), (.bool false), (.bool false), (.bool false), (.bool false), (.bool false), (.bool false), (.bool false), (.bool false), (.bool false), (.bool false), (.bool false), (.bool false), (.bool false), (.bool false), (.bool false), (.bool false), (.bool false), (.bool false), (.bool false), (.bool false), (.bool false), (.bool false), (.bool false), (.bool false), (.bool false), (.bool false), (.bool false), (.bool false), (.bool false), (.bool false), (.bool false), (.bool false), (.bool false), (.bool false), (.bool false), (.bool false), (.bool false), (.bool false), (.bool false), (.bool false), (.bool false), (.bool false), (.bool false), (.bool false), (.bool false), (.bool false), (.bool false), (.bool false), (.bool false)]), eqOk := true }
theorem tok298 : TyRow Tryz.prog 396 298 ti298 := ⟨by kernel_rfl, by kernel_rfl, by kernel_rfl⟩
noncomputable def ti299 : TI := { desc := Tryz.t298.desc, size := 256, bytes := 256, agg := true, zero := some (.agg [(.bool false), (.bool false), (.bool false), (.bool false), (.bool false), (.bool false), (.bool false), (.bool false), (.bool false), (.bool false), (.bool false), (.bool false), (.bool false), (.bool false), (.bool false), (.bool false), (.bool false), (.bool false), (.bool false), (.bool false), (.bool false), (.bool false), (.bool false), (.bool false), (.bool false), (.bool false), (.bool false), (.bool false), (.bool false), (.bool false), (.bool false), (.bool false), (.bool false), (.bool false), (.bool false), (.bool false), (.bool false), (.bool false), (.bool false), (.bool false), (.bool false), (.bool false), (.bool false), (.bool false), (.bool false), (.bool false), (.bool false), (.bool false), (.bool false), (.bool false), (.bool false), (.bool false), (.bool false), (.bool false), (.bool false), (.bool false), (.bool false), (.bool false), (.bool false), (.bool false), (.bool false), (.bool false), (.bool false), (.bool false), (.bool false), (.bool false), (.bool false), (.bool false), (.bool false), (.bool false), (.bool false), (.bool false), (.bool false), (.bool false), (.bool false), (.bool false), (.bool false), (.bool false), (.bool false), (.bool false), (.bool false), (.bool false), (.bool false), (.bool false), (.bool false), (.bool false), (.bool false), (.bool false), (.bool false), (.bool false), (.bool false), (.bool false), (.bool false), (.bool false), (.bool false), (.bool false), (.bool false), (.bool false), (.bool false), (.bool false), (.bool false), (.bool false), (.bool false), (.bool false), (.bool false), (.bool false), (.bool false), (.bool false), (.bool false), (.bool false), (.bool false), (.bool false), (.bool false), (.bool false), (.bool false), (.bool false), (.bool false), (.bool false), (.bool false), (.bool false), (.bool false), (.bool false), (.bool false), (.bool false), (.bool false), (.bool false), (.bool false), (.bool false), (.bool false), (.bool false), (.bool false), (.bool false), (.bool false), (.bool false), (.bool false), (.bool false), (.bool false), (.bool false), (.bool false), (.bool false), (.bool false), (.bool false), (.bool false), (.bool false), (.bool false), (.bool false), (.bool false), (.bool false), (.bool false), (.bool false), (.bool false), (.bool false), (.bool false), (.bool false), (.bool false), (.bool false), (.bool false), (.bool false), (.bool false), (.bool false), (.bool false), (.bool false), (.bool false), (.bool false), (.bool false), (.bool false), (.bool false), (.bool false), (.bool false), (.bool false), (.bool false), (.bool false), (.bool false), (.bool false), (.bool false), (.bool false), (.bool false), (.bool false), (.bool false), (.bool false), (.bool false), (.bool false), (.bool false), (.bool false), (.bool false), (.bool false), (.bool false), (.bool false), (.bool false), (.bool false), (.bool false), (.bool false), (.bool false), (.bool false), (.bool false), (.bool false), (.bool false), (.bool false), (.bool false), (.bool false), (.bool false), (.bool false), (.bool false), (.bool false), (.bool false), (.bool false), (.bool false), (.bool false), (.bool false), (.bool false), (.bool false), (.bool false), (.bool false), (.bool false), (.bool false), (.bool false), (.bool false), (.bool false), (.bool false), (.bool false), (.bool false), (.bool false), (.bool false), (.bool false), (.bool false), (.bool false), (.bool false), (.bool false), (.bool false), (.bool false), (.bool false), (.bool false), (.bool false), (.bool false), (.bool false), (.bool false), (.bool false), (.bool false), (.bool false), (.bool false), (.bool false), (.bool false), (.bool false), (.bool false), (.bool false), (.bool false), (.bool false), (.bool false), (.bool false), (.bool false), (.bool false), (.bool false), (.bool false), (.bool false), (.bool false), (.bool false)]), eqOk := true }
theorem tok299 : TyRow Tryz.prog 396 299 ti299 := ⟨by kernel_rfl, by kernel_rfl, by kernel_rfl⟩
noncomputable def ti300 : TI := { desc := Tryz.t300.desc, size := 1, bytes := 0, agg := false, zero := none, eqOk := false }
theorem tok300 : TyRow Tryz.prog 396 300 ti300 := ⟨by kernel_rfl, by kernel_rfl, by kernel_rfl⟩
noncomputable def ti301 : TI := { desc := Tryz.t301.desc, size := 1, bytes := 8, agg := false, zero := some .nilFunc, eqOk := false }
theorem tok301 : TyRow Tryz.prog 396 301 ti301 := ⟨by kernel_rfl, by kernel_rfl, by kernel_rfl⟩
noncomputable def ti302 : TI := { desc := Tryz.t302.desc, size := 1, bytes := 8, agg := false, zero := some .nilFunc, eqOk := false }
theorem tok302 : TyRow Tryz.prog 396 302 ti302 := ⟨by kernel_rfl, by kernel_rfl, by kernel_rfl⟩
noncomputable def ti303 : TI := { desc := Tryz.t303.desc, size := 1, bytes := 8, agg := false, zero := some .pnil, eqOk := true }
theorem tok303 : TyRow Tryz.prog 396 303 ti303 := ⟨by kernel_rfl, by kernel_rfl, by kernel_rfl⟩
noncomputable def ti304 : TI := { desc := Tryz.t304.desc, size := 1, bytes := 8, agg := false, zero := some .nilFunc, eqOk := false }
theorem tok304 : TyRow Tryz.prog 396 304 ti304 := ⟨by kernel_rfl, by kernel_rfl, by kernel_rfl⟩
noncomputable def ti305 : TI := { desc := Tryz.t305.desc, size := 1, bytes := 8, agg := false, zero := some .nilFunc, eqOk := false }
theorem tok305 : TyRow Tryz.prog 396 305 ti305 := ⟨by kernel_rfl, by kernel_rfl, by kernel_rfl⟩
noncomputable def ti306 : TI := { desc := Tryz.t306.desc, size := 1, bytes := 8, agg := false, zero := some .nilFunc, eqOk := false }
theorem tok306 : TyRow Tryz.prog 396 306 ti306 := ⟨by kernel_rfl, by kernel_rfl, by kernel_rfl⟩
noncomputable def ti307 : TI := { desc := Tryz.t307.desc, size := 1, bytes := 8, agg := false, zero := some .nilFunc, eqOk := false }
theorem tok307 : TyRow Tryz.prog 396 307 ti307 := ⟨by kernel_rfl, by kernel_rfl, by kernel_rfl⟩
noncomputable def ti308 : TI := { desc := Tryz.t308.desc, size := 1, bytes := 8, agg := false, zero := some .nilFunc, eqOk := false }
theorem tok308 : TyRow Tryz.prog 396 308 ti308 := ⟨by kernel_rfl, by kernel_rfl, by kernel_rfl⟩
noncomputable def ti309 : TI := { desc := Tryz.t309.desc, size := 1, bytes := 8, agg := false, zero := some .mnil, eqOk := false }
theorem tok309 : TyRow Tryz.prog 396 309 ti309 := ⟨by kernel_rfl, by kernel_rfl, by kernel_rfl⟩
noncomputable def ti310 : TI := { desc := Tryz.t310.desc, size := 1, bytes := 8, agg := false, zero := some .nilFunc, eqOk := false }
theorem tok310 : TyRow Tryz.prog 396 310 ti310 := ⟨by kernel_rfl, by kernel_rfl, by kernel_rfl⟩
noncomputable def ti311 : TI := { desc := Tryz.t311.desc, size := 1, bytes := 8, agg := false, zero := some .nilFunc, eqOk := false }
theorem tok311 : TyRow Tryz.prog 396 311 ti311 := ⟨by kernel_rfl, by kernel_rfl, by kernel_rfl⟩
noncomputable def ti312 : TI := { desc := Tryz.t312.desc, size := 1, bytes := 0, agg := false, zero := some (.tup [.snil, (.int .u32 (0))]), eqOk := false }
theorem tok312 : TyRow Tryz.prog 396 312 ti312 := ⟨by kernel_rfl, by kernel_rfl, by kernel_rfl⟩
noncomputable def ti313 : TI := { desc := Tryz.t313.desc, size := 1, bytes := 8, agg := false, zero := some .nilFunc, eqOk := false }
theorem tok313 : TyRow Tryz.prog 396 313 ti313 := ⟨by kernel_rfl, by kernel_rfl, by kernel_rfl⟩
noncomputable def ti314 : TI := { desc := Tryz.t314.desc, size := 1, bytes := 8, agg := false, zero := some .nilFunc, eqOk := false }
theorem tok314 : TyRow Tryz.prog 396 314 ti314 := ⟨by kernel_rfl, by kernel_rfl, by kernel_rfl⟩
noncomputable def ti315 : TI := { desc := Tryz.t315.desc, size := 1, bytes := 8, agg := false, zero := some .nilFunc, eqOk := false }
theorem tok315 : TyRow Tryz.prog 396 315 ti315 := ⟨by kernel_rfl, by kernel_rfl, by kernel_rfl⟩
noncomputable def ti316 : TI := { desc := Tryz.t316.desc, size := 1, bytes := 8, agg := false, zero := some .nilFunc, eqOk := false }
theorem tok316 : TyRow Tryz.prog 396 316 ti316 := ⟨by kernel_rfl, by kernel_rfl, by kernel_rfl⟩
noncomputable def ti317 : TI := { desc := Tryz.t317.desc, size := 1, bytes := 8, agg := false, zero := some .nilFunc, eqOk := false }
theorem tok317 : TyRow Tryz.prog 396 317 ti317 := ⟨by kernel_rfl, by kernel_rfl, by kernel_rfl⟩
noncomputable def ti318 : TI := { desc := Tryz.t318.desc, size := 1, bytes := 8, agg := false, zero := some .nilFunc, eqOk := false }
theorem tok318 : TyRow Tryz.prog 396 318 ti318 := ⟨by kernel_rfl, by kernel_rfl, by kernel_rfl⟩
noncomputable def ti319 : TI := { desc := Tryz.t319.desc, size := 1, bytes := 8, agg := false, zero := some .pnil, eqOk := true }
theorem tok319 : TyRow Tryz.prog 396 319 ti319 := ⟨by kernel_rfl, by kernel_rfl, by kernel_rfl⟩
noncomputable def ti320 : TI := { desc := Tryz.t320.desc, size := 1, bytes := 0, agg := false, zero := some (.tup [(.int .i64 (0)), (.int .i64 (0))]), eqOk := false }
theorem tok320 : TyRow Tryz.prog 396 320 ti320 := ⟨by kernel_rfl, by kernel_rfl, by kernel_rfl⟩
noncomputable def ti321 : TI := { desc := Tryz.t321.desc, size := 1, bytes := 8, agg := false, zero := some .nilFunc, eqOk := false }
theorem tok321 : TyRow Tryz.prog 396 321 ti321 := ⟨by kernel_rfl, by kernel_rfl, by kernel_rfl⟩
noncomputable def ti322 : TI := { desc := Tryz.t322.desc, size := 1, bytes := 8, agg := false, zero := some .nilFunc, eqOk := false }
theorem tok322 : TyRow Tryz.prog 396 322 ti322 := ⟨by kernel_rfl, by kernel_rfl, by kernel_rfl⟩
noncomputable def ti323 : TI := { desc := Tryz.t323.desc, size := 1, bytes := 8, agg := false, zero := some .nilFunc, eqOk := false }
theorem tok323 : TyRow Tryz.prog 396 323 ti323 := ⟨by kernel_rfl, by kernel_rfl, by kernel_rfl⟩
noncomputable def ti324 : TI := { desc := Tryz.t324.desc, size := 1, bytes := 8, agg := false, zero := some .nilFunc, eqOk := false }
theorem tok324 : TyRow Tryz.prog 396 324 ti324 := ⟨by kernel_rfl, by kernel_rfl, by kernel_rfl⟩
noncomputable def ti325 : TI := { desc := Tryz.t325.desc, size := 1, bytes := 0, agg := false, zero := some (.tup [(.int .i32 (0)), (.int .i64 (0))]), eqOk := false }
theorem tok325 : TyRow Tryz.prog 396 325 ti325 := ⟨by kernel_rfl, by kernel_rfl, by kernel_rfl⟩
noncomputable def ti326 : TI := { desc := Tryz.t326.desc, size := 1, bytes := 8, agg := false, zero := some .nilFunc, eqOk := false }
theorem tok326 : TyRow Tryz.prog 396 326 ti326 := ⟨by kernel_rfl, by kernel_rfl, by kernel_rfl⟩
noncomputable def ti327 : TI := { desc := Tryz.t327.desc, size := 1, bytes := 8, agg := false, zero := some .nilFunc, eqOk := false }
theorem tok327 : TyRow Tryz.prog 396 327 ti327 := ⟨by kernel_rfl, by kernel_rfl, by kernel_rfl⟩
noncomputable def ti328 : TI := { desc := Tryz.t328.desc, size := 1, bytes := 8, agg := false, zero := some .nilFunc, eqOk := false }
theorem tok328 : TyRow Tryz.prog 396 328 ti328 := ⟨by kernel_rfl, by kernel_rfl, by kernel_rfl⟩
noncomputable def ti329 : TI := { desc := Tryz.t329.desc, size := 1, bytes := 8, agg := false, zero := some .nilFunc, eqOk := false }
theorem tok329 : TyRow Tryz.prog 396 329 ti329 := ⟨by kernel_rfl, by kernel_rfl, by kernel_rfl⟩
noncomputable def ti330 : TI := { desc := Tryz.t330.desc, size := 1, bytes := 8, agg := false, zero := some .nilFunc, eqOk := false }
theorem tok330 : TyRow Tryz.prog 396 330 ti330 := ⟨by kernel_rfl, by kernel_rfl, by kernel_rfl⟩
noncomputable def ti331 : TI := { desc := Tryz.t3.desc, size := 1, bytes := 8, agg := false, zero := some (.int .i64 (0)), eqOk := true }
theorem tok331 : TyRow Tryz.prog 396 331 ti331 := ⟨by kernel_rfl, by kernel_rfl, by kernel_rfl⟩
noncomputable def ti332 : TI := { desc := Tryz.t332.desc, size := 1, bytes := 24, agg := false, zero := some .snil, eqOk := false }
theorem tok332 : TyRow Tryz.prog 396 332 ti332 := ⟨by kernel_rfl, by kernel_rfl, by kernel_rfl⟩
noncomputable def ti333 : TI := { desc := Tryz.t333.desc, size := 1, bytes := 0, agg := false, zero := some (.tup [(.int .i64 (0)), .nilIface]), eqOk := false }
theorem tok333 : TyRow Tryz.prog 396 333 ti333 := ⟨by kernel_rfl, by kernel_rfl, by kernel_rfl⟩
noncomputable def ti334 : TI := { desc := Tryz.t334.desc, size := 1, bytes := 8, agg := false, zero := some .nilFunc, eqOk := false }
theorem tok334 : TyRow Tryz.prog 396 334 ti334 := ⟨by kernel_rfl, by kernel_rfl, by kernel_rfl⟩
noncomputable def ti335 : TI := { desc := Tryz.t335.desc, size := 1, bytes := 8, agg := false, zero := some .pnil, eqOk := true }
theorem tok335 : TyRow Tryz.prog 396 335 ti335 := ⟨by kernel_rfl, by kernel_rfl, by kernel_rfl⟩
noncomputable def ti336 : TI := { desc := Tryz.t336.desc, size := 1, bytes := 8, agg := false, zero := some .nilFunc, eqOk := false }
theorem tok336 : TyRow Tryz.prog 396 336 ti336 := ⟨by kernel_rfl, by kernel_rfl, by kernel_rfl⟩
noncomputable def ti337 : TI := { desc := Tryz.t337.desc, size := 1, bytes := 8, agg := false, zero := some .nilFunc, eqOk := false }
theorem tok337 : TyRow Tryz.prog 396 337 ti337 := ⟨by kernel_rfl, by kernel_rfl, by kernel_rfl⟩
noncomputable def ti338 : TI := { desc := Tryz.t338.desc, size := 1, bytes := 0, agg := false, zero := none, eqOk := false }
theorem tok338 : TyRow Tryz.prog 396 338 ti338 := ⟨by kernel_rfl, by kernel_rfl, by kernel_rfl⟩
noncomputable def ti339 : TI := { desc := Tryz.t339.desc, size := 1, bytes := 8, agg := false, zero := some .nilFunc, eqOk := false }
theorem tok339 : TyRow Tryz.prog 396 339 ti339 := ⟨by kernel_rfl, by kernel_rfl, by kernel_rfl⟩
noncomputable def ti340 : TI := { desc := Tryz.t340.desc, size := 1, bytes := 8, agg := false, zero := some .nilFunc, eqOk := false }
theorem tok340 : TyRow Tryz.prog 396 340 ti340 := ⟨by kernel_rfl, by kernel_rfl, by kernel_rfl⟩
noncomputable def ti341 : TI := { desc := Tryz.t341.desc, size := 1, bytes := 0, agg := false, zero := some (.tup [(.int .u32 (0)), (.int .u32 (0))]), eqOk := false }
theorem tok341 : TyRow Tryz.prog 396 341 ti341 := ⟨by kernel_rfl, by kernel_rfl, by kernel_rfl⟩
noncomputable def ti342 : TI := { desc := Tryz.t342.desc, size := 1, bytes := 8, agg := false, zero := some .nilFunc, eqOk := false }
theorem tok342 : TyRow Tryz.prog 396 342 ti342 := ⟨by kernel_rfl, by kernel_rfl, by kernel_rfl⟩
noncomputable def ti343 : TI := { desc := Tryz.t343.desc, size := 1, bytes := 8, agg := false, zero := some .nilFunc, eqOk := false }
theorem tok343 : TyRow Tryz.prog 396 343 ti343 := ⟨by kernel_rfl, by kernel_rfl, by kernel_rfl⟩
noncomputable def ti344 : TI := { desc := Tryz.t344.desc, size := 1, bytes := 0, agg := false, zero := some (.tup [(.int .u64 (0)), .nilIface]), eqOk := false }
theorem tok344 : TyRow Tryz.prog 396 344 ti344 := ⟨by kernel_rfl, by kernel_rfl, by kernel_rfl⟩
noncomputable def ti345 : TI := { desc := Tryz.t345.desc, size := 1, bytes := 8, agg := false, zero := some .nilFunc, eqOk := false }
theorem tok345 : TyRow Tryz.prog 396 345 ti345 := ⟨by kernel_rfl, by kernel_rfl, by kernel_rfl⟩
noncomputable def ti346 : TI := { desc := Tryz.t346.desc, size := 1, bytes := 8, agg := false, zero := some .nilFunc, eqOk := false }
theorem tok346 : TyRow Tryz.prog 396 346 ti346 := ⟨by kernel_rfl, by kernel_rfl, by kernel_rfl⟩
noncomputable def ti347 : TI := { desc := Tryz.t347.desc, size := 3, bytes := 48, agg := true, zero := some (.agg [(.str []), (.str []), .nilIface]), eqOk := false }
theorem tok347 : TyRow Tryz.prog 396 347 ti347 := ⟨by kernel_rfl, by kernel_rfl, by kernel_rfl⟩
noncomputable def ti348 : TI := { desc := Tryz.t347.desc, size := 3, bytes := 48, agg := true, zero := some (.agg [(.str []), (.str []), .nilIface]), eqOk := false }
theorem tok348 : TyRow Tryz.prog 396 348 ti348 := ⟨by kernel_rfl, by kernel_rfl, by kernel_rfl⟩
noncomputable def ti349 : TI := { desc := Tryz.t349.desc, size := 1, bytes := 8, agg := false, zero := some .nilFunc, eqOk := false }
theorem tok349 : TyRow Tryz.prog 396 349 ti349 := ⟨by kernel_rfl, by kernel_rfl, by kernel_rfl⟩
noncomputable def ti350 : TI := { desc := Tryz.t350.desc, size := 24, bytes := 24, agg := true, zero := some (.agg [(.int .u8 (0)), (.int .u8 (0)), (.int .u8 (0)), (.int .u8 (0)), (.int .u8 (0)), (.int .u8 (0)), (.int .u8 (0)), (.int .u8 (0)), (.int .u8 (0)), (.int .u8 (0)), (.int .u8 (0)), (.int .u8 (0)), (.int .u8 (0)), (.int .u8 (0)), (.int .u8 (0)), (.int .u8 (0)), (.int .u8 (0)), (.int .u8 (0)), (.int .u8 (0)), (.int .u8 (0)), (.int .u8 (0)), (.int .u8 (0)), (.int .u8 (0)), (.int .u8 (0))]), eqOk := true }
theorem tok350 : TyRow Tryz.prog 396 350 ti350 := ⟨by kernel_rfl, by kernel_rfl, by kernel_rfl⟩
noncomputable def ti351 : TI := { desc := Tryz.t351.desc, size := 1, bytes := 8, agg := false, zero := some .nilFunc, eqOk := false }
theorem tok351 : TyRow Tryz.prog 396 351 ti351 := ⟨by kernel_rfl, by kernel_rfl, by kernel_rfl⟩
noncomputable def ti352 : TI := { desc := Tryz.t352.desc, size := 1, bytes := 0, agg := false, zero := some (.tup [.snil, (.str [])]), eqOk := false }
theorem tok352 : TyRow Tryz.prog 396 352 ti352 := ⟨by kernel_rfl, by kernel_rfl, by kernel_rfl⟩
noncomputable def ti353 : TI := { desc := Tryz.t353.desc, size := 1, bytes := 8, agg := false, zero := some .nilFunc, eqOk := false }
theorem tok353 : TyRow Tryz.prog 396 353 ti353 := ⟨by kernel_rfl, by kernel_rfl, by kernel_rfl⟩
noncomputable def ti354 : TI := { desc := Tryz.t354.desc, size := 1, bytes := 8, agg := false, zero := some .nilFunc, eqOk := false }
theorem tok354 : TyRow Tryz.prog 396 354 ti354 := ⟨by kernel_rfl, by kernel_rfl, by kernel_rfl⟩
noncomputable def ti355 : TI := { desc := Tryz.t355.desc, size := 256, bytes := 256, agg := true, zero := some (.agg [(.int .u8 (0)), (.int .u8 (0)), (.int .u8 (0)), (.int .u8 (0)), (.int .u8 (0)), (.int .u8 (0)), (.int .u8 (0)), (.int .u8 (0)), (.int .u8 (0)), (.int .u8 (0)), (.int .u8 (0)), (.int .u8 (0)), (.int .u8 (0)), (.int .u8 (0)), (.int .u8 (0)), (.int .u8 (0)), (.int .u8 (0)), (.int .u8 (0)), (.int .u8 (0)), (.int .u8 (0)), (.int .u8 (0)), (.int .u8 (0)), (.int .u8 (0)), (.int .u8 (0)), (.int .u8 (0)), (.int .u8 (0)), (.int .u8 (0)), (.int .u8 (0)), (.int .u8 (0)), (.int .u8 (0)), (.int .u8 (0)), (.int .u8 (0)), (.int .u8 (0)), (.int .u8 (0)), (.int .u8 (0)), (.int .u8 (0)), (.int .u8 (0)), (.int .u8 (0)), (.int .u8 (0)), (.int .u8 (0)), (.int .u8 (0)), (.int .u8 (0)), (.int .u8 (0)), (.int .u8 (0)), (.int .u8 (0)), (.int .u8 (0)), (.int .u8 (0)), (.int .u8 (0)), (.int .u8 (0)), (.int .u8 (0)), (.int .u8 (0)), (.int .u8 (0)), (.int .u8 (0)), (.int .u8 (0)), (.int .u8 (0)), (.int .u8 (0)), (.int .u8 (0)), (.int .u8 (0)), (.int .u8 (0)), (.int .u8 (0)), (.int .u8 (0)), (.int .u8 (0)), (.int .u8 (0)), (.int .u8 (0)), (.int .u8 (0)), (.int .u8 (0)), (.int .u8 (0)), (.int .u8 (0)), (.int .u8 (0)), (.int .u8 (0)), (.int .u8 (0)), (.int .u8 (0)), (.int .u8 (0)), (.int .u8 (0)), (.int .u8 (0)), (.int .u8 (0)), (.int .u8 (0)), (.int .u8 (0)), (.int .u8 (0)), (.int .u8 (0)), (.int .u8 (0)), (.int .u8 (0)), (.int .u8 (0)), (.int .u8 (0)), (.int .u8 (0)), (.int .u8 (0)), (.int .u8 (0)), (.int .u8 (0)), (.int .u8 (0)), (.int .u8 (0)), (.int .u8 (0)), (.int .u8 (0)), (.int .u8 (0)), (.int .u8 (0)), (.int .u8 (0)), (.int .u8 (0)), (.int .u8 (0)), (.int .u8 (0)), (.int .u8 (0)), (.int .u8 (0)), (.int .u8 (0)), (.int .u8 (0)), (.int .u8 (0)), (.int .u8 (0)), (.int .u8 (0)), (.int .u8 (0)), (.int .u8 (0)), (.int .u8 (0)), (.int .u8 (0)), (.int .u8 (0)), (.int .u8 (0)), (.int .u8 (0)), (.int .u8 (0)), (.int .u8 (0)), (.int .u8 (0)), (.int .u8 (0)), (.int .u8 (0)), (.int .u8 (0)), (.int .u8 (0)), (.int .u8 (0)), (.int .u8 (0)), (.int .u8 (0)), (.int .u8 (0)), (.int .u8 (0)), (.int .u8 (0)), (.int .u8 (0)), (.int .u8 (0)), (.int .u8 (0)), (.int .u8 (0)), (.int .u8 (0)), (.int .u8 (0)), (.int .u8 (0)), (.int .u8 (0)), (.int .u8 (0)), (.int .u8 (0)), (.int .u8 (0)), (.int .u8 (0)), (.int .u8 (0)), (.int .u8 (0)), (.int .u8 (0)), (.int .u8 (0)), (.int .u8 (0)), (.int .u8 (0)), (.int .u8 (0)), (.int .u8 (0)), (.int .u8 (0)), (.int .u8 (0)), (.int .u8 (0)), (.int .u8 (0)), (.int .u8 (0)), (.int .u8 (0)), (.int .u8 (0)), (.int .u8 (0)), (.int .u8 (0)), (.int .u8 (0)), (.int .u8 (0)), (.int .u8 (0)), (.int .u8 (0)), (.int .u8 (0)), (.int .u8 (0)), (.int .u8 (0)), (.int .u8 (0)), (.int .u8 (0)), (.int .u8 (0)), (.int .u8 (0)), (.int .u8 (0)), (.int .u8 (0)), (.int .u8 (0)), (.int .u8 (0)), (.int .u8 (0)), (.int .u8 (0)), (.int .u8 (0)), (.int .u8 (0)), (.int .u8 (0)), (.int .u8 (0)), (.int .u8 (0)), (.int .u8 (0)), (.int .u8 (0)), (.int .u8 (0)), (.int .u8 (0)), (.int .u8 (0)), (.int .u8 (0)), (.int .u8 (0)), (.int .u8 (0)), (.int .u8 (0)), (.int .u8 (0)), (.int .u8 (0)), (.int .u8 (0)), (.int .u8 (0)), (.int .u8 (0)), (.int .u8 (0)), (.int .u8 (0)), (.int .u8 (0)), (.int .u8 (0)), (.int .u8 (0)), (.int .u8 (0)), (.int .u8 (0)), (.int .u8 (0)), (.int .u8 (0)), (.int .u8 (0)), (.int .u8 (0)), (.int .u8 (0)), (.int .u8 (0)), (.int .u8 (0)), (.int .u8 (0)), (.int .u8 (0)), (.int .u8 (0)), (.int .u8 (0)), (.int .u8 (0)), (.int .u8 (0)), (.int .u8 (0)), (.int .u8 (0)), (.int .u8 (0)), (.int .u8 (0)), (.int .u8 (0)), (.int .u8 (0)), (.int .u8 (0)), (.int .u8 (0)), (.int .u8 (0)), (.int .u8 (0)), (.int .u8 (0)), (.int .u8 (0)), (.int .u8 (0)), (.int .u8 (0)), (.int .u8 (0)), (.int .u8 (0)), (.int .u8 (0)), (.int .u8 (0)), (.int .u8 (0)), (.int .u8 (0)), (.int .u8 (0)), (.int .u8 (0)), (.int .u8 (0)), (.int .u8 (0)), (.int .u8 (0)), (.int .u8 (0)), (.int .u8 (0)), (.int .u8 (0)), (.int .u8 (0)), (.int .u8 (0)), (.int .u8 (0)), (.int .u8 (0)), (.int .u8 (0)), (.int .u8 (0)), (.int .u8 (0)), (.int .u8 (0)), (.int .u8 (0)), (.int .u8 (0)), (.int .u8 (0)), (.int .u8 (0)), (.int .u8 (0)), (.int .u8 (0)), (.int .u8 (0)), (.int .u8 (0)), (.int .u8 (0)), (.int .u8 (0))]), eqOk := true }
theorem tok355 : TyRow Tryz.prog 396 355 ti355 := ⟨by kernel_rfl, by kernel_rfl, by kernel_rfl⟩
noncomputable def ti356 : TI := { desc := Tryz.t356.desc, size := 2, bytes := 2, agg := true, zero := some (.agg [(.int .u8 (0)), (.int .u8 (0))]), eqOk := true }
theorem tok356 : TyRow Tryz.prog 396 356 ti356 := ⟨by kernel_rfl, by kernel_rfl, by kernel_rfl⟩
noncomputable def ti357 : TI := { desc := Tryz.t356.desc, size := 2, bytes := 2, agg := true, zero := some (.agg [(.int .u8 (0)), (.int .u8 (0))]), eqOk := true }
theorem tok357 : TyRow Tryz.prog 396 357 ti357 := ⟨by kernel_rfl, by kernel_rfl, by kernel_rfl⟩
noncomputable def ti358 : TI := { desc := Tryz.t358.desc, size := 32, bytes := 32, agg := true, zero := some (.agg [(.int .u8 (0)), (.int .u8 (0)), (.int .u8 (0)), (.int .u8 (0)), (.int .u8 (0)), (.int .u8 (0)), (.int .u8 (0)), (.int .u8 (0)), (.int .u8 (0)), (.int .u8 (0)), (.int .u8 (0)), (.int .u8 (0)), (.int .u8 (0)), (.int .u8 (0)), (.int .u8 (0)), (.int .u8 (0)), (.int .u8 (0)), (.int .u8 (0)), (.int .u8 (0)), (.int .u8 (0)), (.int .u8 (0)), (.int .u8 (0)), (.int .u8 (0)), (.int .u8 (0)), (.int .u8 (0)), (.int .u8 (0)), (.int .u8 (0)), (.int .u8 (0)), (.int .u8 (0)), (.int .u8 (0)), (.int .u8 (0)), (.int .u8 (0))]), eqOk := true }
theorem tok358 : TyRow Tryz.prog 396 358 ti358 := ⟨by kernel_rfl, by kernel_rfl, by kernel_rfl⟩
noncomputable def ti359 : TI := { desc := Tryz.t359.desc, size := 1, bytes := 8, agg := false, zero := some .nilFunc, eqOk := false }
theorem tok359 : TyRow Tryz.prog 396 359 ti359 := ⟨by kernel_rfl, by kernel_rfl, by kernel_rfl⟩
noncomputable def ti360 : TI := { desc := Tryz.t360.desc, size := 1, bytes := 8, agg := false, zero := some .nilFunc, eqOk := false }
theorem tok360 : TyRow Tryz.prog 396 360 ti360 := ⟨by kernel_rfl, by kernel_rfl, by kernel_rfl⟩
noncomputable def ti361 : TI := { desc := Tryz.t361.desc, size := 1, bytes := 8, agg := false, zero := some .pnil, eqOk := true }
theorem tok361 : TyRow Tryz.prog 396 361 ti361 := ⟨by kernel_rfl, by kernel_rfl, by kernel_rfl⟩
noncomputable def ti362 : TI := { desc := Tryz.t362.desc, size := 1, bytes := 8, agg := false, zero := some .pnil, eqOk := true }
theorem tok362 : TyRow Tryz.prog 396 362 ti362 := ⟨by kernel_rfl, by kernel_rfl, by kernel_rfl⟩
noncomputable def ti363 : TI := { desc := Tryz.t363.desc, size := 1, bytes := 16, agg := true, zero := some (.agg [(.str [])]), eqOk := true }
theorem tok363 : TyRow Tryz.prog 396 363 ti363 := ⟨by kernel_rfl, by kernel_rfl, by kernel_rfl⟩
noncomputable def ti364 : TI := { desc := Tryz.t363.desc, size := 1, bytes := 16, agg := true, zero := some (.agg [(.str [])]), eqOk := true }
theorem tok364 : TyRow Tryz.prog 396 364 ti364 := ⟨by kernel_rfl, by kernel_rfl, by kernel_rfl⟩
noncomputable def ti365 : TI := { desc := Tryz.t365.desc, size := 1, bytes := 8, agg := false, zero := some .nilFunc, eqOk := false }
theorem tok365 : TyRow Tryz.prog 396 365 ti365 := ⟨by kernel_rfl, by kernel_rfl, by kernel_rfl⟩
noncomputable def ti366 : TI := { desc := Tryz.t366.desc, size := 20, bytes := 160, agg := true, zero := some (.agg [(.int .u64 (0)), (.int .u64 (0)), (.int .u64 (0)), (.int .u64 (0)), (.int .u64 (0)), (.int .u64 (0)), (.int .u64 (0)), (.int .u64 (0)), (.int .u64 (0)), (.int .u64 (0)), (.int .u64 (0)), (.int .u64 (0)), (.int .u64 (0)), (.int .u64 (0)), (.int .u64 (0)), (.int .u64 (0)), (.int .u64 (0)), (.int .u64 (0)), (.int .u64 (0)), (.int .u64 (0))]), eqOk := true }
theorem tok366 : TyRow Tryz.prog 396 366 ti366 := ⟨by kernel_rfl, by kernel_rfl, by kernel_rfl⟩
noncomputable def ti367 : TI := { desc := Tryz.t367.desc, size := 65, bytes := 65, agg := true, zero := some (.agg [(.int .u8 (0)), (.int .u8 (0)), (.int .u8 (0)), (.int .u8 (0)), (.int .u8 (0)), (.int .u8 (0)), (.int .u8 (0)), (.int .u8 (0)), (.int .u8 (0)), (.int .u8 (0)), (.int .u8 (0)), (.int .u8 (0)), (.int .u8 (0)), (.int .u8 (0)), (.int .u8 (0)), (.int .u8 (0)), (.int .u8 (0)), (.int .u8 (0)), (.int .u8 (0)), (.int .u8 (0)), (.int .u8 (0)), (.int .u8 (0)), (.int .u8 (0)), (.int .u8 (0)), (.int .u8 (0)), (.int .u8 (0)), (.int .u8 (0)), (.int .u8 (0)), (.int .u8 (0)), (.int .u8 (0)), (.int .u8 (0)), (.int .u8 (0)), (.int .u8 (0)), (.int .u8 (0)), (.int .u8 (0)), (.int .u8 (0)), (.int .u8 (0)), (.int .u8 (0)), (.int .u8 (0)), (.int .u8 (0)), (.int .u8 (0)), (.int .u8 (0)), (.int .u8 (0)), (.int .u8 (0)), (.int .u8 (0)), (.int .u8 (0)), (.int .u8 (0)), (.int .u8 (0)), (.int .u8 (0)), (.int .u8 (0)), (.int .u8 (0)), (.int .u8 (0)), (.int .u8 (0)), (.int .u8 (0)), (.int .u8 (0)), (.int .u8 (0)), (.int .u8 (0)), (.int .u8 (0)), (.int .u8 (0)), (.int .u8 (0)), (.int .u8 (0)), (.int .u8 (0)), (.int .u8 (0)), (.int .u8 (0)), (.int .u8 (0))]), eqOk := true }
theorem tok367 : TyRow Tryz.prog 396 367 ti367 := ⟨by kernel_rfl, by kernel_rfl, by kernel_rfl⟩
noncomputable def ti368 : TI := { desc := Tryz.t368.desc, size := 1, bytes := 8, agg := false, zero := some .pnil, eqOk := true }
theorem tok368 : TyRow Tryz.prog 396 368 ti368 := ⟨by kernel_rfl, by kernel_rfl, by kernel_rfl⟩
noncomputable def ti369 : TI := { desc := Tryz.t369.desc, size := 2, bytes := 32, agg := true, zero := some (.agg [.pnil, .snil]), eqOk := false }
theorem tok369 : TyRow Tryz.prog 396 369 ti369 := ⟨by kernel_rfl, by kernel_rfl, by kernel_rfl⟩
noncomputable def ti370 : TI := { desc := Tryz.t369.desc, size := 2, bytes := 32, agg := true, zero := some (.agg [.pnil, .snil]), eqOk := false }
theorem tok370 : TyRow Tryz.prog 396 370 ti370 := ⟨by kernel_rfl, by kernel_rfl, by kernel_rfl⟩
noncomputable def ti371 : TI := { desc := Tryz.t371.desc, size := 1, bytes := 8, agg := false, zero := some .nilFunc, eqOk := false }
theorem tok371 : TyRow Tryz.prog 396 371 ti371 := ⟨by kernel_rfl, by kernel_rfl, by kernel_rfl⟩
noncomputable def ti372 : TI := { desc := Tryz.t372.desc, size := 1, bytes := 0, agg := false, zero := some (.tup [(.int .u64 (0)), (.int .u64 (0))]), eqOk := false }
theorem tok372 : TyRow Tryz.prog 396 372 ti372 := ⟨by kernel_rfl, by kernel_rfl, by kernel_rfl⟩
noncomputable def ti373 : TI := { desc := Tryz.t373.desc, size := 1, bytes := 8, agg := false, zero := some .nilFunc, eqOk := false }
theorem tok373 : TyRow Tryz.prog 396 373 ti373 := ⟨by kernel_rfl, by kernel_rfl, by kernel_rfl⟩
noncomputable def ti374 : TI := { desc := Tryz.t374.desc, size := 1, bytes := 8, agg := false, zero := some .nilFunc, eqOk := false }
theorem tok374 : TyRow Tryz.prog 396 374 ti374 := ⟨by kernel_rfl, by kernel_rfl, by kernel_rfl⟩
noncomputable def ti375 : TI := { desc := Tryz.t375.desc, size := 32, bytes := 32, agg := true, zero := some (.agg [(.int .u8 (0)), (.int .u8 (0)), (.int .u8 (0)), (.int .u8 (0)), (.int .u8 (0)), (.int .u8 (0)), (.int .u8 (0)), (.int .u8 (0)), (.int .u8 (0)), (.int .u8 (0)), (.int .u8 (0)), (.int .u8 (0)), (.int .u8 (0)), (.int .u8 (0)), (.int .u8 (0)), (.int .u8 (0)), (.int .u8 (0)), (.int .u8 (0)), (.int .u8 (0)), (.int .u8 (0)), (.int .u8 (0)), (.int .u8 (0)), (.int .u8 (0)), (.int .u8 (0)), (.int .u8 (0)), (.int .u8 (0)), (.int .u8 (0)), (.int .u8 (0)), (.int .u8 (0)), (.int .u8 (0)), (.int .u8 (0)), (.int .u8 (0))]), eqOk := true }
theorem tok375 : TyRow Tryz.prog 396 375 ti375 := ⟨by kernel_rfl, by kernel_rfl, by kernel_rfl⟩
noncomputable def ti376 : TI := { desc := Tryz.t376.desc, size := 64, bytes := 64, agg := true, zero := some (.agg [(.int .u8 (0)), (.int .u8 (0)), (.int .u8 (0)), (.int .u8 (0)), (.int .u8 (0)), (.int .u8 (0)), (.int .u8 (0)), (.int .u8 (0)), (.int .u8 (0)), (.int .u8 (0)), (.int .u8 (0)), (.int .u8 (0)), (.int .u8 (0)), (.int .u8 (0)), (.int .u8 (0)), (.int .u8 (0)), (.int .u8 (0)), (.int .u8 (0)), (.int .u8 (0)), (.int .u8 (0)), (.int .u8 (0)), (.int .u8 (0)), (.int .u8 (0)), (.int .u8 (0)), (.int .u8 (0)), (.int .u8 (0)), (.int .u8 (0)), (.int .u8 (0)), (.int .u8 (0)), (.int .u8 (0)), (.int .u8 (0)), (.int .u8 (0)), (.int .u8 (0)), (.int .u8 (0)), (.int .u8 (0)), (.int .u8 (0)), (.int .u8 (0)), (.int .u8 (0)), (.int .u8 (0)), (.int .u8 (0)), (.int .u8 (0)), (.int .u8 (0)), (.int .u8 (0)), (.int .u8 (0)), (.int .u8 (0)), (.int .u8 (0)), (.int .u8 (0)), (.int .u8 (0)), (.int .u8 (0)), (.int .u8 (0)), (.int .u8 (0)), (.int .u8 (0)), (.int .u8 (0)), (.int .u8 (0)), (.int .u8 (0)), (.int .u8 (0)), (.int .u8 (0)), (.int .u8 (0)), (.int .u8 (0)), (.int .u8 (0)), (.int .u8 (0)), (.int .u8 (0)), (.int .u8 (0)), (.int .u8 (0))]), eqOk := true }
theorem tok376 : TyRow Tryz.prog 396 376 ti376 := ⟨by kernel_rfl, by kernel_rfl, by kernel_rfl⟩
noncomputable def ti377 : TI := { desc := Tryz.t377.desc, size := 1, bytes := 8, agg := false, zero := some .nilFunc, eqOk := false }
theorem tok377 : TyRow Tryz.prog 396 377 ti377 := ⟨by kernel_rfl, by kernel_rfl, by kernel_rfl⟩
noncomputable def ti378 : TI := { desc := Tryz.t378.desc, size := 1, bytes := 0, agg := false, zero := some (.tup [(.int .u64 (0)), (.int .u64 (0))]), eqOk := false }
theorem tok378 : TyRow Tryz.prog 396 378 ti378 := ⟨by kernel_rfl, by kernel_rfl, by kernel_rfl⟩
noncomputable def ti379 : TI := { desc := Tryz.t379.desc, size := 1, bytes := 8, agg := false, zero := some .nilFunc, eqOk := false }
theorem tok379 : TyRow Tryz.prog 396 379 ti379 := ⟨by kernel_rfl, by kernel_rfl, by kernel_rfl⟩
noncomputable def ti380 : TI := { desc := Tryz.t380.desc, size := 1, bytes := 8, agg := false, zero := some .pnil, eqOk := true }
theorem tok380 : TyRow Tryz.prog 396 380 ti380 := ⟨by kernel_rfl, by kernel_rfl, by kernel_rfl⟩
noncomputable def ti381 : TI := { desc := Tryz.t381.desc, size := 1, bytes := 8, agg := false, zero := some .nilFunc, eqOk := false }
theorem tok381 : TyRow Tryz.prog 396 381 ti381 := ⟨by kernel_rfl, by kernel_rfl, by kernel_rfl⟩
noncomputable def ti382 : TI := { desc := Tryz.t382.desc, size := 1, bytes := 8, agg := false, zero := some .nilFunc, eqOk := false }
theorem tok382 : TyRow Tryz.prog 396 382 ti382 := ⟨by kernel_rfl, by kernel_rfl, by kernel_rfl⟩
noncomputable def ti383 : TI := { desc := Tryz.t383.desc, size := 4, bytes := 40, agg := true, zero := some (.agg [.pnil, .pnil, .pnil, (.str [])]), eqOk := false }
theorem tok383 : TyRow Tryz.prog 396 383 ti383 := ⟨by kernel_rfl, by kernel_rfl, by kernel_rfl⟩
noncomputable def ti384 : TI := { desc := Tryz.t383.desc, size := 4, bytes := 40, agg := true, zero := some (.agg [.pnil, .pnil, .pnil, (.str [])]), eqOk := false }
theorem tok384 : TyRow Tryz.prog 396 384 ti384 := ⟨by kernel_rfl, by kernel_rfl, by kernel_rfl⟩
noncomputable def ti385 : TI := { desc := Tryz.t385.desc, size := 0, bytes := 0, agg := true, zero := some (.agg []), eqOk := true }
theorem tok385 : TyRow Tryz.prog 396 385 ti385 := ⟨by kernel_rfl, by kernel_rfl, by kernel_rfl⟩
noncomputable def ti386 : TI := { desc := Tryz.t386.desc, size := 0, bytes := 0, agg := true, zero := some (.agg []), eqOk := false }
theorem tok386 : TyRow Tryz.prog 396 386 ti386 := ⟨by kernel_rfl, by kernel_rfl, by kernel_rfl⟩
noncomputable def ti387 : TI := { desc := Tryz.t386.desc, size := 0, bytes := 0, agg := true, zero := some (.agg []), eqOk := false }
theorem tok387 : TyRow Tryz.prog 396 387 ti387 := ⟨by kernel_rfl, by kernel_rfl, by kernel_rfl⟩
noncomputable def ti388 : TI := { desc := Tryz.t5.desc, size := 1, bytes := 1, agg := false, zero := some (.int .u8 (0)), eqOk := true }
theorem tok388 : TyRow Tryz.prog 396 388 ti388 := ⟨by kernel_rfl, by kernel_rfl, by kernel_rfl⟩
noncomputable def ti389 : TI := { desc := Tryz.t5.desc, size := 1, bytes := 1, agg := false, zero := some (.int .u8 (0)), eqOk := true }
theorem tok389 : TyRow Tryz.prog 396 389 ti389 := ⟨by kernel_rfl, by kernel_rfl, by kernel_rfl⟩
noncomputable def ti390 : TI := { desc := Tryz.t390.desc, size := 1, bytes := 8, agg := false, zero := some .nilFunc, eqOk := false }
theorem tok390 : TyRow Tryz.prog 396 390 ti390 := ⟨by kernel_rfl, by kernel_rfl, by kernel_rfl⟩
noncomputable def ti391 : TI := { desc := Tryz.t21.desc, size := 1, bytes := 4, agg := false, zero := some (.int .i32 (0)), eqOk := true }
theorem tok391 : TyRow Tryz.prog 396 391 ti391 := ⟨by kernel_rfl, by kernel_rfl, by kernel_rfl⟩
noncomputable def ti392 : TI := { desc := Tryz.t21.desc, size := 1, bytes := 4, agg := false, zero := some (.int .i32 (0)), eqOk := true }
theorem tok392 : TyRow Tryz.prog 396 392 ti392 := ⟨by kernel_rfl, by kernel_rfl, by kernel_rfl⟩
noncomputable def ti393 : TI := { desc := Tryz.t393.desc, size := 11, bytes := 48, agg := true, zero := some (.agg [(.int .u64 (0)), (.int .u64 (0)), (.int .u32 (0)), (.int .u8 (0)), (.int .u8 (0)), (.int .u8 (0)), (.int .u8 (0)), .nilFunc, .pnil, (.int .i32 (0)), (.int .i32 (0))]), eqOk := false }
theorem tok393 : TyRow Tryz.prog 396 393 ti393 := ⟨by kernel_rfl, by kernel_rfl, by kernel_rfl⟩
noncomputable def ti394 : TI := { desc := Tryz.t393.desc, size := 11, bytes := 48, agg := true, zero := some (.agg [(.int .u64 (0)), (.int .u64 (0)), (.int .u32 (0)), (.int .u8 (0)), (.int .u8 (0)), (.int .u8 (0)), (.int .u8 (0)), .nilFunc, .pnil, (.int .i32 (0)), (.int .i32 (0))]), eqOk := false }
theorem tok394 : TyRow Tryz.prog 396 394 ti394 := ⟨by kernel_rfl, by kernel_rfl, by kernel_rfl⟩
noncomputable def ti395 : TI := { desc := Tryz.t395.desc, size := 1, bytes := 8, agg := false, zero := some .nilFunc, eqOk := false }
theorem tok395 : TyRow Tryz.prog 396 395 ti395 := ⟨by kernel_rfl, by kernel_rfl, by kernel_rfl⟩
noncomputable def typesT : T TI := (.node (some ti0) (.node (some ti1) (.node (some ti3) (.node (some ti7) (.node (some ti15) (.node (some ti31) (.node (some ti63) (.node (some ti127) (.node (some ti255) .nil .nil) (.node (some ti383) .nil .nil)) (.node (some ti191) (.node (some ti319) .nil .nil) .nil)) (.node (some ti95) (.node (some ti159) (.node (some ti287) .nil .nil) .nil) (.node (some ti223) (.node (some ti351) .nil .nil) .nil))) (.node (some ti47) (.node (some ti79) (.node (some ti143) (.node (some ti271) .nil .nil) .nil) (.node (some ti207) (.node (some ti335) .nil .nil) .nil)) (.node (some ti111) (.node (some ti175) (.node (some ti303) .nil .nil) .nil) (.node (some ti239) (.node (some ti367) .nil .nil) .nil)))) (.node (some ti23) (.node (some ti39) (.node (some ti71) (.node (some ti135) (.node (some ti263) .nil .nil) (.node (some ti391) .nil .nil)) (.node (some ti199) (.node (some ti327) .nil .nil) .nil)) (.node (some ti103) (.node (some ti167) (.node (some ti295) .nil .nil) .nil) (.node (some ti231) (.node (some ti359) .nil .nil) .nil))) (.node (some ti55) (.node (some ti87) (.node (some ti151) (.node (some ti279) .nil .nil) .nil) (.node (some ti215) (.node (some ti343) .nil .nil) .nil)) (.node (some ti119) (.node (some ti183) (.node (some ti311) .nil .nil) .nil) (.node (some ti247) (.node (some ti375) .nil .nil) .nil))))) (.node (some ti11) (.node (some ti19) (.node (some ti35) (.node (some ti67) (.node (some ti131) (.node (some ti259) .nil .nil) (.node (some ti387) .nil .nil)) (.node (some ti195) (.node (some ti323) .nil .nil) .nil)) (.node (some ti99) (.node (some ti163) (.node (some ti291) .nil .nil) .nil) (.node (some ti227) (.node (some ti355) .nil .nil) .nil))) (.node (some ti51) (.node (some ti83) (.node (some ti147) (.node (some ti275) .nil .nil) .nil) (.node (some ti211) (.node (some ti339) .nil .nil) .nil)) (.node (some ti115) (.node (some ti179) (.node (some ti307) .nil .nil) .nil) (.node (some ti243) (.node (some ti371) .nil .nil) .nil)))) (.node (some ti27) (.node (some ti43) (.node (some ti75) (.node (some ti139) (.node (some ti267) .nil .nil) (.node (some ti395) .nil .nil)) (.node (some ti203) (.node (some ti331) .nil .nil) .nil)) (.node (some ti107) (.node (some ti171) (.node (some ti299) .nil .nil) .nil) (.node (some ti235) (.node (some ti363) .nil .nil) .nil))) (.node (some ti59) (.node (some ti91) (.node (some ti155) (.node (some ti283) .nil .nil) .nil) (.node (some ti219) (.node (some ti347) .nil .nil) .nil)) (.node (some ti123) (.node (some ti187) (.node (some ti315) .nil .nil) .nil) (.node (some ti251) (.node (some ti379) .nil .nil) .nil)))))) (.node (some ti5) (.node (some ti9) (.node (some ti17) (.node (some ti33) (.node (some ti65) (.node (some ti129) (.node (some ti257) .nil .nil) (.node (some ti385) .nil .nil)) (.node (some ti193) (.node (some ti321) .nil .nil) .nil)) (.node (some ti97) (.node (some ti161) (.node (some ti289) .nil .nil) .nil) (.node (some ti225) (.node (some ti353) .nil .nil) .nil))) (.node (some ti49) (.node (some ti81) (.node (some ti145) (.node (some ti273) .nil .nil) .nil) (.node (some ti209) (.node (some ti337) .nil .nil) .nil)) (.node (some ti113) (.node (some ti177) (.node (some ti305) .nil .nil) .nil) (.node (some ti241) (.node (some ti369) .nil .nil) .nil)))) (.node (some ti25) (.node (some ti41) (.node (some ti73) (.node (some ti137) (.node (some ti265) .nil .nil) (.node (some ti393) .nil .nil)) (.node (some ti201) (.node (some ti329) .nil .nil) .nil)) (.node (some ti105) (.node (some ti169) (.node (some ti297) .nil .nil) .nil) (.node (some ti233) (.node (some ti361) .nil .nil) .nil))) (.node (some ti57) (.node (some ti89) (.node (some ti153) (.node (some ti281) .nil .nil) .nil) (.node (some ti217) (.node (some ti345) .nil .nil) .nil)) (.node (some ti121) (.node (some ti185) (.node (some ti313) .nil .nil) .nil) (.node (some ti249) (.node (some ti377) .nil .nil) .nil))))) (.node (some ti13) (.node (some ti21) (.node (some ti37) (.node (some ti69) (.node (some ti133) (.node (some ti261) .nil .nil) (.node (some ti389) .nil .nil)) (.node (some ti197) (.node (some ti325) .nil .nil) .nil)) (.node (some ti101) (.node (some ti165) (.node (some ti293) .nil .nil) .nil) (.node (some ti229) (.node (some ti357) .nil .nil) .nil))) (.node (some ti53) (.node (some ti85) (.node (some ti149) (.node (some ti277) .nil .nil) .nil) (.node (some ti213) (.node (some ti341) .nil .nil) .nil)) (.node (some ti117) (.node (some ti181) (.node (some ti309) .nil .nil) .nil) (.node (some ti245) (.node (some ti373) .nil .nil) .nil)))) (.node (some ti29) (.node (some ti45) (.node (some ti77) (.node (some ti141) (.node (some ti269) .nil .nil) .nil) (.node (some ti205) (.node (some ti333) .nil .nil) .nil)) (.node (some ti109) (.node (some ti173) (.node (some ti301) .nil .nil) .nil) (.node (some ti237) (.node (some ti365) .nil .nil) .nil))) (.node (some ti61) (.node (some ti93) (.node (some ti157) (.node (some ti285) .nil .nil) .nil) (.node (some ti221) (.node (some ti349) .nil .nil) .nil)) (.node (some ti125) (.node (some ti189) (.node (some ti317) .nil .nil) .nil) (.node (some ti253) (.node (some ti381) .nil .nil) .nil))))))) (.node (some ti2) (.node (some ti4) (.node (some ti8) (.node (some ti16) (.node (some ti32) (.node (some ti64) (.node (some ti128) (.node (some ti256) .nil .nil) (.node (some ti384) .nil .nil)) (.node (some ti192) (.node (some ti320) .nil .nil) .nil)) (.node (some ti96) (.node (some ti160) (.node (some ti288) .nil .nil) .nil) (.node (some ti224) (.node (some ti352) .nil .nil) .nil))) (.node (some ti48) (.node (some ti80) (.node (some ti144) (.node (some ti272) .nil .nil) .nil) (.node (some ti208) (.node (some ti336) .nil .nil) .nil)) (.node (some ti112) (.node (some ti176) (.node (some ti304) .nil .nil) .nil) (.node (some ti240) (.node (some ti368) .nil .nil) .nil)))) (.node (some ti24) (.node (some ti40) (.node (some ti72) (.node (some ti136) (.node (some ti264) .nil .nil) (.node (some ti392) .nil .nil)) (.node (some ti200) (.node (some ti328) .nil .nil) .nil)) (.node (some ti104) (.node (some ti168) (.node (some ti296) .nil .nil) .nil) (.node (some ti232) (.node (some ti360) .nil .nil) .nil))) (.node (some ti56) (.node (some ti88) (.node (some ti152) (.node (some ti280) .nil .nil) .nil) (.node (some ti216) (.node (some ti344) .nil .nil) .nil)) (.node (some ti120) (.node (some ti184) (.node (some ti312) .nil .nil) .nil) (.node (some ti248) (.node (some ti376) .nil .nil) .nil))))) (.node (some ti12) (.node (some ti20) (.node (some ti36) (.node (some ti68) (.node (some ti132) (.node (some ti260) .nil .nil) (.node (some ti388) .nil .nil)) (.node (some ti196) (.node (some ti324) .nil .nil) .nil)) (.node (some ti100) (.node (some ti164) (.node (some ti292) .nil .nil) .nil) (.node (some ti228) (.node (some ti356) .nil .nil) .nil))) (.node (some ti52) (.node (some ti84) (.node (some ti148) (.node (some ti276) .nil .nil) .nil) (.node (some ti212) (.node (some ti340) .nil .nil) .nil)) (.node (some ti116) (.node (some ti180) (.node (some ti308) .nil .nil) .nil) (.node (some ti244) (.node (some ti372) .nil .nil) .nil)))) (.node (some ti28) (.node (some ti44) (.node (some ti76) (.node (some ti140) (.node (some ti268) .nil .nil) .nil) (.node (some ti204) (.node (some ti332) .nil .nil) .nil)) (.node (some ti108) (.node (some ti172) (.node (some ti300) .nil .nil) .nil) (.node (some ti236) (.node (some ti364) .nil .nil) .nil))) (.node (some ti60) (.node (some ti92) (.node (some ti156) (.node (some ti284) .nil .nil) .nil) (.node (some ti220) (.node (some ti348) .nil .nil) .nil)) (.node (some ti124) (.node (some ti188) (.node (some ti316) .nil .nil) .nil) (.node (some ti252) (.node (some ti380) .nil .nil) .nil)))))) (.node (some ti6) (.node (some ti10) (.node (some ti18) (.node (some ti34) (.node (some ti66) (.node (some ti130) (.node (some ti258) .nil .nil) (.node (some ti386) .nil .nil)) (.node (some ti194) (.node (some ti322) .nil .nil) .nil)) (.node (some ti98) (.node (some ti162) (.node (some ti290) .nil .nil) .nil) (.node (some ti226) (.node (some ti354) .nil .nil) .nil))) (.node (some ti50) (.node (some ti82) (.node (some ti146) (.node (some ti274) .nil .nil) .nil) (.node (some ti210) (.node (some ti338) .nil .nil) .nil)) (.node (some ti114) (.node (some ti178) (.node (some ti306) .nil .nil) .nil) (.node (some ti242) (.node (some ti370) .nil .nil) .nil)))) (.node (some ti26) (.node (some ti42) (.node (some ti74) (.node (some ti138) (.node (some ti266) .nil .nil) (.node (some ti394) .nil .nil)) (.node (some ti202) (.node (some ti330) .nil .nil) .nil)) (.node (some ti106) (.node (some ti170) (.node (some ti298) .nil .nil) .nil) (.node (some ti234) (.node (some ti362) .nil .nil) .nil))) (.node (some ti58) (.node (some ti90) (.node (some ti154) (.node (some ti282) .nil .nil) .nil) (.node (some ti218) (.node (some ti346) .nil .nil) .nil)) (.node (some ti122) (.node (some ti186) (.node (some ti314) .nil .nil) .nil) (.node (some ti250) (.node (some ti378) .nil .nil) .nil))))) (.node (some ti14) (.node (some ti22) (.node (some ti38) (.node (some ti70) (.node (some ti134) (.node (some ti262) .nil .nil) (.node (some ti390) .nil .nil)) (.node (some ti198) (.node (some ti326) .nil .nil) .nil)) (.node (some ti102) (.node (some ti166) (.node (some ti294) .nil .nil) .nil) (.node (some ti230) (.node (some ti358) .nil .nil) .nil))) (.node (some ti54) (.node (some ti86) (.node (some ti150) (.node (some ti278) .nil .nil) .nil) (.node (some ti214) (.node (some ti342) .nil .nil) .nil)) (.node (some ti118) (.node (some ti182) (.node (some ti310) .nil .nil) .nil) (.node (some ti246) (.node (some ti374) .nil .nil) .nil)))) (.node (some ti30) (.node (some ti46) (.node (some ti78) (.node (some ti142) (.node (some ti270) .nil .nil) .nil) (.node (some ti206) (.node (some ti334) .nil .nil) .nil)) (.node (some ti110) (.node (some ti174) (.node (some ti302) .nil .nil) .nil) (.node (some ti238) (.node (some ti366) .nil .nil) .nil))) (.node (some ti62) (.node (some ti94) (.node (some ti158) (.node (some ti286) .nil .nil) .nil) (.node (some ti222) (.node (some ti350) .nil .nil) .nil)) (.node (some ti126) (.node (some ti190) (.node (some ti318) .nil .nil) .nil) (.node (some ti254) (.node (some ti382) .nil .nil) .nil))))))))
noncomputable def funcsT : T AFn := (.node none (.node none (.node (some ⟨Tryz.f3, none⟩) (.node (some ⟨Tryz.f7, none⟩) (.node (some ⟨Tryz.f15, none⟩) (.node (some ⟨Tryz.f31, none⟩) (.node (some ⟨Tryz.f63, none⟩) (.node (some ⟨Tryz.f127, none⟩) (.node (some ⟨Tryz.f255, none⟩) .nil .nil) .nil) (.node (some ⟨Tryz.f191, none⟩) (.node none .nil .nil) .nil)) (.node (some ⟨Tryz.f95, none⟩) (.node (some ⟨Tryz.f159, none⟩) (.node (some ⟨Tryz.f287, none⟩) .nil .nil) .nil) (.node (some ⟨Tryz.f223, none⟩) .nil .nil))) (.node (some ⟨Tryz.f47, none⟩) (.node (some ⟨Tryz.f79, none⟩) (.node (some ⟨Tryz.f143, none⟩) (.node (some ⟨Tryz.f271, none⟩) .nil .nil) .nil) (.node (some ⟨Tryz.f207, none⟩) .nil .nil)) (.node (some ⟨Tryz.f111, none⟩) (.node (some ⟨Tryz.f175, none⟩) (.node none .nil .nil) .nil) (.node (some ⟨Tryz.f239, none⟩) .nil .nil)))) (.node (some ⟨Tryz.f23, none⟩) (.node (some ⟨Tryz.f39, none⟩) (.node (some ⟨Tryz.f71, none⟩) (.node (some ⟨Tryz.f135, none⟩) (.node (some ⟨Tryz.f263, none⟩) .nil .nil) .nil) (.node (some ⟨Tryz.f199, none⟩) (.node none .nil .nil) .nil)) (.node (some ⟨Tryz.f103, none⟩) (.node (some ⟨Tryz.f167, none⟩) (.node (some ⟨Tryz.f295, none⟩) .nil .nil) .nil) (.node (some ⟨Tryz.f231, none⟩) .nil .nil))) (.node (some ⟨Tryz.f55, none⟩) (.node (some ⟨Tryz.f87, none⟩) (.node (some ⟨Tryz.f151, none⟩) (.node (some ⟨Tryz.f279, none⟩) .nil .nil) .nil) (.node (some ⟨Tryz.f215, none⟩) .nil .nil)) (.node (some ⟨Tryz.f119, none⟩) (.node (some ⟨Tryz.f183, none⟩) (.node none .nil .nil) .nil) (.node (some ⟨Tryz.f247, none⟩) .nil .nil))))) (.node (some ⟨Tryz.f11, none⟩) (.node (some ⟨Tryz.f19, none⟩) (.node (some ⟨Tryz.f35, none⟩) (.node (some ⟨Tryz.f67, none⟩) (.node (some ⟨Tryz.f131, none⟩) (.node (some ⟨Tryz.f259, none⟩) .nil .nil) .nil) (.node (some ⟨Tryz.f195, none⟩) (.node none .nil .nil) .nil)) (.node (some ⟨Tryz.f99, none⟩) (.node (some ⟨Tryz.f163, none⟩) (.node (some ⟨Tryz.f291, none⟩) .nil .nil) .nil) (.node (some ⟨Tryz.f227, none⟩) .nil .nil))) (.node (some ⟨Tryz.f51, none⟩) (.node (some ⟨Tryz.f83, none⟩) (.node (some ⟨Tryz.f147, none⟩) (.node (some ⟨Tryz.f275, none⟩) .nil .nil) .nil) (.node (some ⟨Tryz.f211, none⟩) .nil .nil)) (.node (some ⟨Tryz.f115, none⟩) (.node (some ⟨Tryz.f179, none⟩) (.node none .nil .nil) .nil) (.node (some ⟨Tryz.f243, none⟩) .nil .nil)))) (.node (some ⟨Tryz.f27, none⟩) (.node (some ⟨Tryz.f43, none⟩) (.node (some ⟨Tryz.f75, none⟩) (.node (some ⟨Tryz.f139, none⟩) (.node (some ⟨Tryz.f267, none⟩) .nil .nil) .nil) (.node (some ⟨Tryz.f203, none⟩) (.node none .nil .nil) .nil)) (.node (some ⟨Tryz.f107, none⟩) (.node (some ⟨Tryz.f171, none⟩) (.node (some ⟨Tryz.f299, none⟩) .nil .nil) .nil) (.node (some ⟨Tryz.f235, none⟩) .nil .nil))) (.node (some ⟨Tryz.f59, none⟩) (.node (some ⟨Tryz.f91, none⟩) (.node (some ⟨Tryz.f155, none⟩) (.node (some ⟨Tryz.f283, none⟩) .nil .nil) .nil) (.node (some ⟨Tryz.f219, none⟩) .nil .nil)) (.node (some ⟨Tryz.f123, none⟩) (.node (some ⟨Tryz.f187, none⟩) (.node none .nil .nil) .nil) (.node (some ⟨Tryz.f251, none⟩) .nil .nil)))))) (.node (some ⟨Tryz.f5, none⟩) (.node (some ⟨Tryz.f9, none⟩) (.node (some ⟨Tryz.f17, none⟩) (.node (some ⟨Tryz.f33, none⟩) (.node (some ⟨Tryz.f65, none⟩) (.node (some ⟨Tryz.f129, none⟩) (.node (some ⟨Tryz.f257, none⟩) .nil .nil) .nil) (.node (some ⟨Tryz.f193, none⟩) (.node none .nil .nil) .nil)) (.node (some ⟨Tryz.f97, none⟩) (.node (some ⟨Tryz.f161, none⟩) (.node (some ⟨Tryz.f289, none⟩) .nil .nil) .nil) (.node (some ⟨Tryz.f225, none⟩) .nil .nil))) (.node (some ⟨Tryz.f49, none⟩) (.node (some ⟨Tryz.f81, none⟩) (.node (some ⟨Tryz.f145, none⟩) (.node (some ⟨Tryz.f273, none⟩) .nil .nil) .nil) (.node (some ⟨Tryz.f209, none⟩) .nil .nil)) (.node (some ⟨Tryz.f113, none⟩) (.node (some ⟨Tryz.f177, none⟩) (.node none .nil .nil) .nil) (.node (some ⟨Tryz.f241, none⟩) .nil .nil)))) (.node (some ⟨Tryz.f25, none⟩) (.node (some ⟨Tryz.f41, none⟩) (.node (some ⟨Tryz.f73, none⟩) (.node (some ⟨Tryz.f137, none⟩) (.node (some ⟨Tryz.f265, none⟩) .nil .nil) .nil) (.node (some ⟨Tryz.f201, none⟩) (.node none .nil .nil) .nil)) (.node (some ⟨Tryz.f105, none⟩) (.node (some ⟨Tryz.f169, none⟩) (.node (some ⟨Tryz.f297, none⟩) .nil .nil) .nil) (.node (some ⟨Tryz.f233, none⟩) .nil .nil))) (.node (some ⟨Tryz.f57, none⟩) (.node (some ⟨Tryz.f89, none⟩) (.node (some ⟨Tryz.f153, none⟩) (.node (some ⟨Tryz.f281, none⟩) .nil .nil) .nil) (.node (some ⟨Tryz.f217, none⟩) .nil .nil)) (.node (some ⟨Tryz.f121, none⟩) (.node (some ⟨Tryz.f185, none⟩) (.node none .nil .nil) .nil) (.node (some ⟨Tryz.f249, none⟩) .nil .nil))))) (.node (some ⟨Tryz.f13, none⟩) (.node (some ⟨Tryz.f21, none⟩) (.node (some ⟨Tryz.f37, none⟩) (.node (some ⟨Tryz.f69, none⟩) (.node (some ⟨Tryz.f133, none⟩) (.node (some ⟨Tryz.f261, none⟩) .nil .nil) .nil) (.node (some ⟨Tryz.f197, none⟩) (.node none .nil .nil) .nil)) (.node (some ⟨Tryz.f101, none⟩) (.node (some ⟨Tryz.f165, none⟩) (.node (some ⟨Tryz.f293, none⟩) .nil .nil) .nil) (.node (some ⟨Tryz.f229, none⟩) .nil .nil))) (.node (some ⟨Tryz.f53, none⟩) (.node (some ⟨Tryz.f85, none⟩) (.node (some ⟨Tryz.f149, none⟩) (.node (some ⟨Tryz.f277, none⟩) .nil .nil) .nil) (.node (some ⟨Tryz.f213, none⟩) .nil .nil)) (.node (some ⟨Tryz.f117, none⟩) (.node (some ⟨Tryz.f181, none⟩) (.node none .nil .nil) .nil) (.node (some ⟨Tryz.f245, none⟩) .nil .nil)))) (.node (some ⟨Tryz.f29, none⟩) (.node (some ⟨Tryz.f45, none⟩) (.node (some ⟨Tryz.f77, none⟩) (.node (some ⟨Tryz.f141, none⟩) (.node (some ⟨Tryz.f269, none⟩) .nil .nil) .nil) (.node (some ⟨Tryz.f205, none⟩) .nil .nil)) (.node (some ⟨Tryz.f109, none⟩) (.node (some ⟨Tryz.f173, none⟩) (.node none .nil .nil) .nil) (.node (some ⟨Tryz.f237, none⟩) .nil .nil))) (.node (some ⟨Tryz.f61, none⟩) (.node (some ⟨Tryz.f93, none⟩) (.node (some ⟨Tryz.f157, none⟩) (.node (some ⟨Tryz.f285, none⟩) .nil .nil) .nil) (.node (some ⟨Tryz.f221, none⟩) .nil .nil)) (.node (some ⟨Tryz.f125, none⟩) (.node (some ⟨Tryz.f189, none⟩) (.node none .nil .nil) .nil) (.node (some ⟨Tryz.f253, none⟩) .nil .nil))))))) (.node (some ⟨Tryz.f2, none⟩) (.node (some ⟨Tryz.f4, none⟩) (.node (some ⟨Tryz.f8, none⟩) (.node (some ⟨Tryz.f16, none⟩) (.node (some ⟨Tryz.f32, none⟩) (.node (some ⟨Tryz.f64, none⟩) (.node (some ⟨Tryz.f128, none⟩) (.node (some ⟨Tryz.f256, none⟩) .nil .nil) .nil) (.node (some ⟨Tryz.f192, none⟩) (.node none .nil .nil) .nil)) (.node (some ⟨Tryz.f96, none⟩) (.node (some ⟨Tryz.f160, none⟩) (.node (some ⟨Tryz.f288, none⟩) .nil .nil) .nil) (.node (some ⟨Tryz.f224, none⟩) .nil .nil))) (.node (some ⟨Tryz.f48, none⟩) (.node (some ⟨Tryz.f80, none⟩) (.node (some ⟨Tryz.f144, none⟩) (.node (some ⟨Tryz.f272, none⟩) .nil .nil) .nil) (.node (some ⟨Tryz.f208, none⟩) .nil .nil)) (.node (some ⟨Tryz.f112, none⟩) (.node (some ⟨Tryz.f176, none⟩) (.node none .nil .nil) .nil) (.node (some ⟨Tryz.f240, none⟩) .nil .nil)))) (.node (some ⟨Tryz.f24, none⟩) (.node (some ⟨Tryz.f40, none⟩) (.node (some ⟨Tryz.f72, none⟩) (.node (some ⟨Tryz.f136, none⟩) (.node (some ⟨Tryz.f264, none⟩) .nil .nil) .nil) (.node (some ⟨Tryz.f200, none⟩) (.node none .nil .nil) .nil)) (.node (some ⟨Tryz.f104, none⟩) (.node (some ⟨Tryz.f168, none⟩) (.node (some ⟨Tryz.f296, none⟩) .nil .nil) .nil) (.node (some ⟨Tryz.f232, none⟩) .nil .nil))) (.node (some ⟨Tryz.f56, none⟩) (.node (some ⟨Tryz.f88, none⟩) (.node (some ⟨Tryz.f152, none⟩) (.node (some ⟨Tryz.f280, none⟩) .nil .nil) .nil) (.node (some ⟨Tryz.f216, none⟩) .nil .nil)) (.node (some ⟨Tryz.f120, none⟩) (.node (some ⟨Tryz.f184, none⟩) (.node none .nil .nil) .nil) (.node (some ⟨Tryz.f248, none⟩) .nil .nil))))) (.node (some ⟨Tryz.f12, none⟩) (.node (some ⟨Tryz.f20, none⟩) (.node (some ⟨Tryz.f36, none⟩) (.node (some ⟨Tryz.f68, none⟩) (.node (some ⟨Tryz.f132, none⟩) (.node (some ⟨Tryz.f260, none⟩) .nil .nil) .nil) (.node (some ⟨Tryz.f196, none⟩) (.node none .nil .nil) .nil)) (.node (some ⟨Tryz.f100, none⟩) (.node (some ⟨Tryz.f164, none⟩) (.node (some ⟨Tryz.f292, none⟩) .nil .nil) .nil) (.node (some ⟨Tryz.f228, none⟩) .nil .nil))) (.node (some ⟨Tryz.f52, none⟩) (.node (some ⟨Tryz.f84, none⟩) (.node (some ⟨Tryz.f148, none⟩) (.node (some ⟨Tryz.f276, none⟩) .nil .nil) .nil) (.node (some ⟨Tryz.f212, none⟩) .nil .nil)) (.node (some ⟨Tryz.f116, none⟩) (.node (some ⟨Tryz.f180, none⟩) (.node none .nil .nil) .nil) (.node (some ⟨Tryz.f244, none⟩) .nil .nil)))) (.node (some ⟨Tryz.f28, none⟩) (.node (some ⟨Tryz.f44, none⟩) (.node (some ⟨Tryz.f76, none⟩) (.node (some ⟨Tryz.f140, none⟩) (.node (some ⟨Tryz.f268, none⟩) .nil .nil) .nil) (.node (some ⟨Tryz.f204, none⟩) (.node (some ⟨Tryz.f332, none⟩) .nil .nil) .nil)) (.node (some ⟨Tryz.f108, none⟩) (.node (some ⟨Tryz.f172, none⟩) (.node (some ⟨Tryz.f300, some .same⟩) .nil .nil) .nil) (.node (some ⟨Tryz.f236, none⟩) .nil .nil))) (.node (some ⟨Tryz.f60, none⟩) (.node (some ⟨Tryz.f92, none⟩) (.node (some ⟨Tryz.f156, none⟩) (.node (some ⟨Tryz.f284, none⟩) .nil .nil) .nil) (.node (some ⟨Tryz.f220, none⟩) .nil .nil)) (.node (some ⟨Tryz.f124, none⟩) (.node (some ⟨Tryz.f188, none⟩) (.node none .nil .nil) .nil) (.node (some ⟨Tryz.f252, none⟩) .nil .nil)))))) (.node (some ⟨Tryz.f6, none⟩) (.node (some ⟨Tryz.f10, none⟩) (.node (some ⟨Tryz.f18, none⟩) (.node (some ⟨Tryz.f34, none⟩) (.node (some ⟨Tryz.f66, none⟩) (.node (some ⟨Tryz.f130, none⟩) (.node (some ⟨Tryz.f258, none⟩) .nil .nil) .nil) (.node (some ⟨Tryz.f194, none⟩) (.node none .nil .nil) .nil)) (.node (some ⟨Tryz.f98, none⟩) (.node (some ⟨Tryz.f162, none⟩) (.node (some ⟨Tryz.f290, none⟩) .nil .nil) .nil) (.node (some ⟨Tryz.f226, none⟩) .nil .nil))) (.node (some ⟨Tryz.f50, none⟩) (.node (some ⟨Tryz.f82, none⟩) (.node (some ⟨Tryz.f146, none⟩) (.node (some ⟨Tryz.f274, none⟩) .nil .nil) .nil) (.node (some ⟨Tryz.f210, none⟩) .nil .nil)) (.node (some ⟨Tryz.f114, none⟩) (.node (some ⟨Tryz.f178, none⟩) (.node none .nil .nil) .nil) (.node none .nil .nil)))) (.node (some ⟨Tryz.f26, none⟩) (.node (some ⟨Tryz.f42, none⟩) (.node (some ⟨Tryz.f74, none⟩) (.node (some ⟨Tryz.f138, none⟩) (.node (some ⟨Tryz.f266, some .indexByte⟩) .nil .nil) .nil) (.node (some ⟨Tryz.f202, none⟩) (.node none .nil .nil) .nil)) (.node (some ⟨Tryz.f106, none⟩) (.node (some ⟨Tryz.f170, none⟩) (.node (some ⟨Tryz.f298, none⟩) .nil .nil) .nil) (.node (some ⟨Tryz.f234, none⟩) .nil .nil))) (.node (some ⟨Tryz.f58, none⟩) (.node (some ⟨Tryz.f90, none⟩) (.node (some ⟨Tryz.f154, none⟩) (.node (some ⟨Tryz.f282, none⟩) .nil .nil) .nil) (.node (some ⟨Tryz.f218, none⟩) .nil .nil)) (.node (some ⟨Tryz.f122, none⟩) (.node (some ⟨Tryz.f186, none⟩) (.node none .nil .nil) .nil) (.node (some ⟨Tryz.f250, none⟩) .nil .nil))))) (.node (some ⟨Tryz.f14, none⟩) (.node (some ⟨Tryz.f22, none⟩) (.node (some ⟨Tryz.f38, none⟩) (.node (some ⟨Tryz.f70, none⟩) (.node (some ⟨Tryz.f134, none⟩) (.node (some ⟨Tryz.f262, none⟩) .nil .nil) .nil) (.node (some ⟨Tryz.f198, none⟩) (.node none .nil .nil) .nil)) (.node (some ⟨Tryz.f102, none⟩) (.node (some ⟨Tryz.f166, none⟩) (.node (some ⟨Tryz.f294, none⟩) .nil .nil) .nil) (.node (some ⟨Tryz.f230, none⟩) .nil .nil))) (.node (some ⟨Tryz.f54, none⟩) (.node (some ⟨Tryz.f86, none⟩) (.node (some ⟨Tryz.f150, none⟩) (.node (some ⟨Tryz.f278, none⟩) .nil .nil) .nil) (.node (some ⟨Tryz.f214, none⟩) .nil .nil)) (.node (some ⟨Tryz.f118, none⟩) (.node (some ⟨Tryz.f182, none⟩) (.node none .nil .nil) .nil) (.node (some ⟨Tryz.f246, none⟩) .nil .nil)))) (.node (some ⟨Tryz.f30, none⟩) (.node (some ⟨Tryz.f46, none⟩) (.node (some ⟨Tryz.f78, none⟩) (.node (some ⟨Tryz.f142, none⟩) (.node (some ⟨Tryz.f270, none⟩) .nil .nil) .nil) (.node (some ⟨Tryz.f206, none⟩) .nil .nil)) (.node (some ⟨Tryz.f110, none⟩) (.node (some ⟨Tryz.f174, none⟩) (.node none .nil .nil) .nil) (.node (some ⟨Tryz.f238, none⟩) .nil .nil))) (.node (some ⟨Tryz.f62, none⟩) (.node (some ⟨Tryz.f94, none⟩) (.node (some ⟨Tryz.f158, none⟩) (.node (some ⟨Tryz.f286, none⟩) .nil .nil) .nil) (.node (some ⟨Tryz.f222, none⟩) .nil .nil)) (.node (some ⟨Tryz.f126, none⟩) (.node (some ⟨Tryz.f190, none⟩) (.node none .nil .nil) .nil) (.node (some ⟨Tryz.f254, none⟩) .nil .nil))))))))
theorem fok2 : FnRow Tryz.prog 2 ⟨Tryz.f2, none⟩ := .mk0 Tryz.func2 (by kernel_rfl) (by kernel_rfl)
theorem fok3 : FnRow Tryz.prog 3 ⟨Tryz.f3, none⟩ := .mk0 Tryz.func3 (by kernel_rfl) (by kernel_rfl)
theorem fok4 : FnRow Tryz.prog 4 ⟨Tryz.f4, none⟩ := .mk0 Tryz.func4 (by kernel_rfl) (by kernel_rfl)
theorem fok5 : FnRow Tryz.prog 5 ⟨Tryz.f5, none⟩ := .mk0 Tryz.func5 (by kernel_rfl) (by kernel_rfl)
theorem fok6 : FnRow Tryz.prog 6 ⟨Tryz.f6, none⟩ := .mk0 Tryz.func6 (by kernel_rfl) (by kernel_rfl)
theorem fok7 : FnRow Tryz.prog 7 ⟨Tryz.f7, none⟩ := .mk0 Tryz.func7 (by kernel_rfl) (by kernel_rfl)
theorem fok8 : FnRow Tryz.prog 8 ⟨Tryz.f8, none⟩ := .mk0 Tryz.func8 (by kernel_rfl) (by kernel_rfl)
theorem fok9 : FnRow Tryz.prog 9 ⟨Tryz.f9, none⟩ := .mk0 Tryz.func9 (by kernel_rfl) (by kernel_rfl)
theorem fok10 : FnRow Tryz.prog 10 ⟨Tryz.f10, none⟩ := .mk0 Tryz.func10 (by kernel_rfl) (by kernel_rfl)
theorem fok11 : FnRow Tryz.prog 11 ⟨Tryz.f11, none⟩ := .mk0 Tryz.func11 (by kernel_rfl) (by kernel_rfl)
theorem fok12 : FnRow Tryz.prog 12 ⟨Tryz.f12, none⟩ := .mk0 Tryz.func12 (by kernel_rfl) (by kernel_rfl)
theorem fok13 : FnRow Tryz.prog 13 ⟨Tryz.f13, none⟩ := .mk0 Tryz.func13 (by kernel_rfl) (by kernel_rfl)
theorem fok14 : FnRow Tryz.prog 14 ⟨Tryz.f14, none⟩ := .mk0 Tryz.func14 (by kernel_rfl) (by kernel_rfl)
theorem fok15 : FnRow Tryz.prog 15 ⟨Tryz.f15, none⟩ := .mk0 Tryz.func15 (by kernel_rfl) (by kernel_rfl)
theorem fok16 : FnRow Tryz.prog 16 ⟨Tryz.f16, none⟩ := .mk0 Tryz.func16 (by kernel_rfl) (by kernel_rfl)
theorem fok17 : FnRow Tryz.prog 17 ⟨Tryz.f17, none⟩ := .mk0 Tryz.func17 (by kernel_rfl) (by kernel_rfl)
theorem fok18 : FnRow Tryz.prog 18 ⟨Tryz.f18, none⟩ := .mk0 Tryz.func18 (by kernel_rfl) (by kernel_rfl)
theorem fok19 : FnRow Tryz.prog 19 ⟨Tryz.f19, none⟩ := .mk0 Tryz.func19 (by kernel_rfl) (by kernel_rfl)
theorem fok20 : FnRow Tryz.prog 20 ⟨Tryz.f20, none⟩ := .mk0 Tryz.func20 (by kernel_rfl) (by kernel_rfl)
theorem fok21 : FnRow Tryz.prog 21 ⟨Tryz.f21, none⟩ := .mk0 Tryz.func21 (by kernel_rfl) (by kernel_rfl)
theorem fok22 : FnRow Tryz.prog 22 ⟨Tryz.f22, none⟩ := .mk0 Tryz.func22 (by kernel_rfl) (by kernel_rfl)
theorem fok23 : FnRow Tryz.prog 23 ⟨Tryz.f23, none⟩ := .mk0 Tryz.func23 (by kernel_rfl) (by kernel_rfl)
theorem fok24 : FnRow Tryz.prog 24 ⟨Tryz.f24, none⟩ := .mk0 Tryz.func24 (by kernel_rfl) (by kernel_rfl)
theorem fok25 : FnRow Tryz.prog 25 ⟨Tryz.f25, none⟩ := .mk0 Tryz.func25 (by kernel_rfl) (by kernel_rfl)
theorem fok26 : FnRow Tryz.prog 26 ⟨Tryz.f26, none⟩ := .mk0 Tryz.func26 (by kernel_rfl) (by kernel_rfl)
theorem fok27 : FnRow Tryz.prog 27 ⟨Tryz.f27, none⟩ := .mk0 Tryz.func27 (by kernel_rfl) (by kernel_rfl)
theorem fok28 : FnRow Tryz.prog 28 ⟨Tryz.f28, none⟩ := .mk0 Tryz.func28 (by kernel_rfl) (by kernel_rfl)
theorem fok29 : FnRow Tryz.prog 29 ⟨Tryz.f29, none⟩ := .mk0 Tryz.func29 (by kernel_rfl) (by kernel_rfl)
theorem fok30 : FnRow Tryz.prog 30 ⟨Tryz.f30, none⟩ := .mk0 Tryz.func30 (by kernel_rfl) (by kernel_rfl)
theorem fok31 : FnRow Tryz.prog 31 ⟨Tryz.f31, none⟩ := .mk0 Tryz.func31 (by kernel_rfl) (by kernel_rfl)
theorem fok32 : FnRow Tryz.prog 32 ⟨Tryz.f32, none⟩ := .mk0 Tryz.func32 (by kernel_rfl) (by kernel_rfl)
theorem fok33 : FnRow Tryz.prog 33 ⟨Tryz.f33, none⟩ := .mk0 Tryz.func33 (by kernel_rfl) (by kernel_rfl)
theorem fok34 : FnRow Tryz.prog 34 ⟨Tryz.f34, none⟩ := .mk0 Tryz.func34 (by kernel_rfl) (by kernel_rfl)
theorem fok35 : FnRow Tryz.prog 35 ⟨Tryz.f35, none⟩ := .mk0 Tryz.func35 (by kernel_rfl) (by kernel_rfl)
theorem fok36 : FnRow Tryz.prog 36 ⟨Tryz.f36, none⟩ := .mk0 Tryz.func36 (by kernel_rfl) (by kernel_rfl)
theorem fok37 : FnRow Tryz.prog 37 ⟨Tryz.f37, none⟩ := .mk0 Tryz.func37 (by kernel_rfl) (by kernel_rfl)
theorem fok38 : FnRow Tryz.prog 38 ⟨Tryz.f38, none⟩ := .mk0 Tryz.func38 (by kernel_rfl) (by kernel_rfl)
theorem fok39 : FnRow Tryz.prog 39 ⟨Tryz.f39, none⟩ := .mk0 Tryz.func39 (by kernel_rfl) (by kernel_rfl)
theorem fok40 : FnRow Tryz.prog 40 ⟨Tryz.f40, none⟩ := .mk0 Tryz.func40 (by kernel_rfl) (by kernel_rfl)
theorem fok41 : FnRow Tryz.prog 41 ⟨Tryz.f41, none⟩ := .mk0 Tryz.func41 (by kernel_rfl) (by kernel_rfl)
theorem fok42 : FnRow Tryz.prog 42 ⟨Tryz.f42, none⟩ := .mk0 Tryz.func42 (by kernel_rfl) (by kernel_rfl)
theorem fok43 : FnRow Tryz.prog 43 ⟨Tryz.f43, none⟩ := .mk0 Tryz.func43 (by kernel_rfl) (by kernel_rfl)
theorem fok44 : FnRow Tryz.prog 44 ⟨Tryz.f44, none⟩ := .mk0 Tryz.func44 (by kernel_rfl) (by kernel_rfl)
theorem fok45 : FnRow Tryz.prog 45 ⟨Tryz.f45, none⟩ := .mk0 Tryz.func45 (by kernel_rfl) (by kernel_rfl)
theorem fok46 : FnRow Tryz.prog 46 ⟨Tryz.f46, none⟩ := .mk0 Tryz.func46 (by kernel_rfl) (by kernel_rfl)
theorem fok47 : FnRow Tryz.prog 47 ⟨Tryz.f47, none⟩ := .mk0 Tryz.func47 (by kernel_rfl) (by kernel_rfl)
theorem fok48 : FnRow Tryz.prog 48 ⟨Tryz.f48, none⟩ := .mk0 Tryz.func48 (by kernel_rfl) (by kernel_rfl)
theorem fok49 : FnRow Tryz.prog 49 ⟨Tryz.f49, none⟩ := .mk0 Tryz.func49 (by kernel_rfl) (by kernel_rfl)
theorem fok50 : FnRow Tryz.prog 50 ⟨Tryz.f50, none⟩ := .mk0 Tryz.func50 (by kernel_rfl) (by kernel_rfl)
theorem fok51 : FnRow Tryz.prog 51 ⟨Tryz.f51, none⟩ := .mk0 Tryz.func51 (by kernel_rfl) (by kernel_rfl)
theorem fok52 : FnRow Tryz.prog 52 ⟨Tryz.f52, none⟩ := .mk0 Tryz.func52 (by kernel_rfl) (by kernel_rfl)
theorem fok53 : FnRow Tryz.prog 53 ⟨Tryz.f53, none⟩ := .mk0 Tryz.func53 (by kernel_rfl) (by kernel_rfl)
theorem fok54 : FnRow Tryz.prog 54 ⟨Tryz.f54, none⟩ := .mk0 Tryz.func54 (by kernel_rfl) (by kernel_rfl)
theorem fok55 : FnRow Tryz.prog 55 ⟨Tryz.f55, none⟩ := .mk0 Tryz.func55 (by kernel_rfl) (by kernel_rfl)
theorem fok56 : FnRow Tryz.prog 56 ⟨Tryz.f56, none⟩ := .mk0 Tryz.func56 (by kernel_rfl) (by kernel_rfl)
theorem fok57 : FnRow Tryz.prog 57 ⟨Tryz.f57, none⟩ := .mk0 Tryz.func57 (by kernel_rfl) (by kernel_rfl)
theorem fok58 : FnRow Tryz.prog 58 ⟨Tryz.f58, none⟩ := .mk0 Tryz.func58 (by kernel_rfl) (by kernel_rfl)
theorem fok59 : FnRow Tryz.prog 59 ⟨Tryz.f59, none⟩ := .mk0 Tryz.func59 (by kernel_rfl) (by kernel_rfl)
theorem fok60 : FnRow Tryz.prog 60 ⟨Tryz.f60, none⟩ := .mk0 Tryz.func60 (by kernel_rfl) (by kernel_rfl)
theorem fok61 : FnRow Tryz.prog 61 ⟨Tryz.f61, none⟩ := .mk0 Tryz.func61 (by kernel_rfl) (by kernel_rfl)
theorem fok62 : FnRow Tryz.prog 62 ⟨Tryz.f62, none⟩ := .mk0 Tryz.func62 (by kernel_rfl) (by kernel_rfl)
theorem fok63 : FnRow Tryz.prog 63 ⟨Tryz.f63, none⟩ := .mk0 Tryz.func63 (by kernel_rfl) (by kernel_rfl)
theorem fok64 : FnRow Tryz.prog 64 ⟨Tryz.f64, none⟩ := .mk0 Tryz.func64 (by kernel_rfl) (by kernel_rfl)
theorem fok65 : FnRow Tryz.prog 65 ⟨Tryz.f65, none⟩ := .mk0 Tryz.func65 (by kernel_rfl) (by kernel_rfl)
theorem fok66 : FnRow Tryz.prog 66 ⟨Tryz.f66, none⟩ := .mk0 Tryz.func66 (by kernel_rfl) (by kernel_rfl)
theorem fok67 : FnRow Tryz.prog 67 ⟨Tryz.f67, none⟩ := .mk0 Tryz.func67 (by kernel_rfl) (by kernel_rfl)
theorem fok68 : FnRow Tryz.prog 68 ⟨Tryz.f68, none⟩ := .mk0 Tryz.func68 (by kernel_rfl) (by kernel_rfl)
theorem fok69 : FnRow Tryz.prog 69 ⟨Tryz.f69, none⟩ := .mk0 Tryz.func69 (by kernel_rfl) (by kernel_rfl)
theorem fok70 : FnRow Tryz.prog 70 ⟨Tryz.f70, none⟩ := .mk0 Tryz.func70 (by kernel_rfl) (by kernel_rfl)
theorem fok71 : FnRow Tryz.prog 71 ⟨Tryz.f71, none⟩ := .mk0 Tryz.func71 (by kernel_rfl) (by kernel_rfl)
theorem fok72 : FnRow Tryz.prog 72 ⟨Tryz.f72, none⟩ := .mk0 Tryz.func72 (by kernel_rfl) (by kernel_rfl)
theorem fok73 : FnRow Tryz.prog 73 ⟨Tryz.f73, none⟩ := .mk0 Tryz.func73 (by kernel_rfl) (by kernel_rfl)
theorem fok74 : FnRow Tryz.prog 74 ⟨Tryz.f74, none⟩ := .mk0 Tryz.func74 (by kernel_rfl) (by kernel_rfl)
theorem fok75 : FnRow Tryz.prog 75 ⟨Tryz.f75, none⟩ := .mk0 Tryz.func75 (by kernel_rfl) (by kernel_rfl)
theorem fok76 : FnRow Tryz.prog 76 ⟨Tryz.f76, none⟩ := .mk0 Tryz.func76 (by kernel_rfl) (by kernel_rfl)
theorem fok77 : FnRow Tryz.prog 77 ⟨Tryz.f77, none⟩ := .mk0 Tryz.func77 (by kernel_rfl) (by kernel_rfl)
theorem fok78 : FnRow Tryz.prog 78 ⟨Tryz.f78, none⟩ := .mk0 Tryz.func78 (by kernel_rfl) (by kernel_rfl)
theorem fok79 : FnRow Tryz.prog 79 ⟨Tryz.f79, none⟩ := .mk0 Tryz.func79 (by kernel_rfl) (by kernel_rfl)
theorem fok80 : FnRow Tryz.prog 80 ⟨Tryz.f80, none⟩ := .mk0 Tryz.func80 (by kernel_rfl) (by kernel_rfl)
theorem fok81 : FnRow Tryz.prog 81 ⟨Tryz.f81, none⟩ := .mk0 Tryz.func81 (by kernel_rfl) (by kernel_rfl)
theorem fok82 : FnRow Tryz.prog 82 ⟨Tryz.f82, none⟩ := .mk0 Tryz.func82 (by kernel_rfl) (by kernel_rfl)
theorem fok83 : FnRow Tryz.prog 83 ⟨Tryz.f83, none⟩ := .mk0 Tryz.func83 (by kernel_rfl) (by kernel_rfl)
theorem fok84 : FnRow Tryz.prog 84 ⟨Tryz.f84, none⟩ := .mk0 Tryz.func84 (by kernel_rfl) (by kernel_rfl)
theorem fok85 : FnRow Tryz.prog 85 ⟨Tryz.f85, none⟩ := .mk0 Tryz.func85 (by kernel_rfl) (by kernel_rfl)
theorem fok86 : FnRow Tryz.prog 86 ⟨Tryz.f86, none⟩ := .mk0 Tryz.func86 (by kernel_rfl) (by kernel_rfl)
theorem fok87 : FnRow Tryz.prog 87 ⟨Tryz.f87, none⟩ := .mk0 Tryz.func87 (by kernel_rfl) (by kernel_rfl)
theorem fok88 : FnRow Tryz.prog 88 ⟨Tryz.f88, none⟩ := .mk0 Tryz.func88 (by kernel_rfl) (by kernel_rfl)
theorem fok89 : FnRow Tryz.prog 89 ⟨Tryz.f89, none⟩ := .mk0 Tryz.func89 (by kernel_rfl) (by kernel_rfl)
theorem fok90 : FnRow Tryz.prog 90 ⟨Tryz.f90, none⟩ := .mk0 Tryz.func90 (by kernel_rfl) (by kernel_rfl)
theorem fok91 : FnRow Tryz.prog 91 ⟨Tryz.f91, none⟩ := .mk0 Tryz.func91 (by kernel_rfl) (by kernel_rfl)
theorem fok92 : FnRow Tryz.prog 92 ⟨Tryz.f92, none⟩ := .mk0 Tryz.func92 (by kernel_rfl) (by kernel_rfl)
theorem fok93 : FnRow Tryz.prog 93 ⟨Tryz.f93, none⟩ := .mk0 Tryz.func93 (by kernel_rfl) (by kernel_rfl)
theorem fok94 : FnRow Tryz.prog 94 ⟨Tryz.f94, none⟩ := .mk0 Tryz.func94 (by kernel_rfl) (by kernel_rfl)
theorem fok95 : FnRow Tryz.prog 95 ⟨Tryz.f95, none⟩ := .mk0 Tryz.func95 (by kernel_rfl) (by kernel_rfl)
theorem fok96 : FnRow Tryz.prog 96 ⟨Tryz.f96, none⟩ := .mk0 Tryz.func96 (by kernel_rfl) (by kernel_rfl)
theorem fok97 : FnRow Tryz.prog 97 ⟨Tryz.f97, none⟩ := .mk0 Tryz.func97 (by kernel_rfl) (by kernel_rfl)
theorem fok98 : FnRow Tryz.prog 98 ⟨Tryz.f98, none⟩ := .mk0 Tryz.func98 (by kernel_rfl) (by kernel_rfl)
theorem fok99 : FnRow Tryz.prog 99 ⟨Tryz.f99, none⟩ := .mk0 Tryz.func99 (by kernel_rfl) (by kernel_rfl)
theorem fok100 : FnRow Tryz.prog 100 ⟨Tryz.f100, none⟩ := .mk0 Tryz.func100 (by kernel_rfl) (by kernel_rfl)
theorem fok101 : FnRow Tryz.prog 101 ⟨Tryz.f101, none⟩ := .mk0 Tryz.func101 (by kernel_rfl) (by kernel_rfl)
theorem fok102 : FnRow Tryz.prog 102 ⟨Tryz.f102, none⟩ := .mk0 Tryz.func102 (by kernel_rfl) (by kernel_rfl)
theorem fok103 : FnRow Tryz.prog 103 ⟨Tryz.f103, none⟩ := .mk0 Tryz.func103 (by kernel_rfl) (by kernel_rfl)
theorem fok104 : FnRow Tryz.prog 104 ⟨Tryz.f104, none⟩ := .mk0 Tryz.func104 (by kernel_rfl) (by kernel_rfl)
theorem fok105 : FnRow Tryz.prog 105 ⟨Tryz.f105, none⟩ := .mk0 Tryz.func105 (by kernel_rfl) (by kernel_rfl)
theorem fok106 : FnRow Tryz.prog 106 ⟨Tryz.f106, none⟩ := .mk0 Tryz.func106 (by kernel_rfl) (by kernel_rfl)
theorem fok107 : FnRow Tryz.prog 107 ⟨Tryz.f107, none⟩ := .mk0 Tryz.func107 (by kernel_rfl) (by kernel_rfl)
theorem fok108 : FnRow Tryz.prog 108 ⟨Tryz.f108, none⟩ := .mk0 Tryz.func108 (by kernel_rfl) (by kernel_rfl)
theorem fok109 : FnRow Tryz.prog 109 ⟨Tryz.f109, none⟩ := .mk0 Tryz.func109 (by kernel_rfl) (by kernel_rfl)
theorem fok110 : FnRow Tryz.prog 110 ⟨Tryz.f110, none⟩ := .mk0 Tryz.func110 (by kernel_rfl) (by kernel_rfl)
theorem fok111 : FnRow Tryz.prog 111 ⟨Tryz.f111, none⟩ := .mk0 Tryz.func111 (by kernel_rfl) (by kernel_rfl)
theorem fok112 : FnRow Tryz.prog 112 ⟨Tryz.f112, none⟩ := .mk0 Tryz.func112 (by kernel_rfl) (by kernel_rfl)
theorem fok113 : FnRow Tryz.prog 113 ⟨Tryz.f113, none⟩ := .mk0 Tryz.func113 (by kernel_rfl) (by kernel_rfl)
theorem fok114 : FnRow Tryz.prog 114 ⟨Tryz.f114, none⟩ := .mk0 Tryz.func114 (by kernel_rfl) (by kernel_rfl)
theorem fok115 : FnRow Tryz.prog 115 ⟨Tryz.f115, none⟩ := .mk0 Tryz.func115 (by kernel_rfl) (by kernel_rfl)
theorem fok116 : FnRow Tryz.prog 116 ⟨Tryz.f116, none⟩ := .mk0 Tryz.func116 (by kernel_rfl) (by kernel_rfl)
theorem fok117 : FnRow Tryz.prog 117 ⟨Tryz.f117, none⟩ := .mk0 Tryz.func117 (by kernel_rfl) (by kernel_rfl)
theorem fok118 : FnRow Tryz.prog 118 ⟨Tryz.f118, none⟩ := .mk0 Tryz.func118 (by kernel_rfl) (by kernel_rfl)
theorem fok119 : FnRow Tryz.prog 119 ⟨Tryz.f119, none⟩ := .mk0 Tryz.func119 (by kernel_rfl) (by kernel_rfl)
theorem fok120 : FnRow Tryz.prog 120 ⟨Tryz.f120, none⟩ := .mk0 Tryz.func120 (by kernel_rfl) (by kernel_rfl)
theorem fok121 : FnRow Tryz.prog 121 ⟨Tryz.f121, none⟩ := .mk0 Tryz.func121 (by kernel_rfl) (by kernel_rfl)
theorem fok122 : FnRow Tryz.prog 122 ⟨Tryz.f122, none⟩ := .mk0 Tryz.func122 (by kernel_rfl) (by kernel_rfl)
theorem fok123 : FnRow Tryz.prog 123 ⟨Tryz.f123, none⟩ := .mk0 Tryz.func123 (by kernel_rfl) (by kernel_rfl)
theorem fok124 : FnRow Tryz.prog 124 ⟨Tryz.f124, none⟩ := .mk0 Tryz.func124 (by kernel_rfl) (by kernel_rfl)
theorem fok125 : FnRow Tryz.prog 125 ⟨Tryz.f125, none⟩ := .mk0 Tryz.func125 (by kernel_rfl) (by kernel_rfl)
theorem fok126 : FnRow Tryz.prog 126 ⟨Tryz.f126, none⟩ := .mk0 Tryz.func126 (by kernel_rfl) (by kernel_rfl)
theorem fok127 : FnRow Tryz.prog 127 ⟨Tryz.f127, none⟩ := .mk0 Tryz.func127 (by kernel_rfl) (by kernel_rfl)
theorem fok128 : FnRow Tryz.prog 128 ⟨Tryz.f128, none⟩ := .mk0 Tryz.func128 (by kernel_rfl) (by kernel_rfl)
theorem fok129 : FnRow Tryz.prog 129 ⟨Tryz.f129, none⟩ := .mk0 Tryz.func129 (by kernel_rfl) (by kernel_rfl)
theorem fok130 : FnRow Tryz.prog 130 ⟨Tryz.f130, none⟩ := .mk0 Tryz.func130 (by kernel_rfl) (by kernel_rfl)
theorem fok131 : FnRow Tryz.prog 131 ⟨Tryz.f131, none⟩ := .mk0 Tryz.func131 (by kernel_rfl) (by kernel_rfl)
theorem fok132 : FnRow Tryz.prog 132 ⟨Tryz.f132, none⟩ := .mk0 Tryz.func132 (by kernel_rfl) (by kernel_rfl)
theorem fok133 : FnRow Tryz.prog 133 ⟨Tryz.f133, none⟩ := .mk0 Tryz.func133 (by kernel_rfl) (by kernel_rfl)
theorem fok134 : FnRow Tryz.prog 134 ⟨Tryz.f134, none⟩ := .mk0 Tryz.func134 (by kernel_rfl) (by kernel_rfl)
theorem fok135 : FnRow Tryz.prog 135 ⟨Tryz.f135, none⟩ := .mk0 Tryz.func135 (by kernel_rfl) (by kernel_rfl)
theorem fok136 : FnRow Tryz.prog 136 ⟨Tryz.f136, none⟩ := .mk0 Tryz.func136 (by kernel_rfl) (by kernel_rfl)
theorem fok137 : FnRow Tryz.prog 137 ⟨Tryz.f137, none⟩ := .mk0 Tryz.func137 (by kernel_rfl) (by kernel_rfl)
theorem fok138 : FnRow Tryz.prog 138 ⟨Tryz.f138, none⟩ := .mk0 Tryz.func138 (by kernel_rfl) (by kernel_rfl)
theorem fok139 : FnRow Tryz.prog 139 ⟨Tryz.f139, none⟩ := .mk0 Tryz.func139 (by kernel_rfl) (by kernel_rfl)
theorem fok140 : FnRow Tryz.prog 140 ⟨Tryz.f140, none⟩ := .mk0 Tryz.func140 (by kernel_rfl) (by kernel_rfl)
theorem fok141 : FnRow Tryz.prog 141 ⟨Tryz.f141, none⟩ := .mk0 Tryz.func141 (by kernel_rfl) (by kernel_rfl)
theorem fok142 : FnRow Tryz.prog 142 ⟨Tryz.f142, none⟩ := .mk0 Tryz.func142 (by kernel_rfl) (by kernel_rfl)
theorem fok143 : FnRow Tryz.prog 143 ⟨Tryz.f143, none⟩ := .mk0 Tryz.func143 (by kernel_rfl) (by kernel_rfl)
theorem fok144 : FnRow Tryz.prog 144 ⟨Tryz.f144, none⟩ := .mk0 Tryz.func144 (by kernel_rfl) (by kernel_rfl)
theorem fok145 : FnRow Tryz.prog 145 ⟨Tryz.f145, none⟩ := .mk0 Tryz.func145 (by kernel_rfl) (by kernel_rfl)
theorem fok146 : FnRow Tryz.prog 146 ⟨Tryz.f146, none⟩ := .mk0 Tryz.func146 (by kernel_rfl) (by kernel_rfl)
theorem fok147 : FnRow Tryz.prog 147 ⟨Tryz.f147, none⟩ := .mk0 Tryz.func147 (by kernel_rfl) (by kernel_rfl)
theorem fok148 : FnRow Tryz.prog 148 ⟨Tryz.f148, none⟩ := .mk0 Tryz.func148 (by kernel_rfl) (by kernel_rfl)
theorem fok149 : FnRow Tryz.prog 149 ⟨Tryz.f149, none⟩ := .mk0 Tryz.func149 (by kernel_rfl) (by kernel_rfl)
theorem fok150 : FnRow Tryz.prog 150 ⟨Tryz.f150, none⟩ := .mk0 Tryz.func150 (by kernel_rfl) (by kernel_rfl)
theorem fok151 : FnRow Tryz.prog 151 ⟨Tryz.f151, none⟩ := .mk0 Tryz.func151 (by kernel_rfl) (by kernel_rfl)
theorem fok152 : FnRow Tryz.prog 152 ⟨Tryz.f152, none⟩ := .mk0 Tryz.func152 (by kernel_rfl) (by kernel_rfl)
theorem fok153 : FnRow Tryz.prog 153 ⟨Tryz.f153, none⟩ := .mk0 Tryz.func153 (by kernel_rfl) (by kernel_rfl)
theorem fok154 : FnRow Tryz.prog 154 ⟨Tryz.f154, none⟩ := .mk0 Tryz.func154 (by kernel_rfl) (by kernel_rfl)
theorem fok155 : FnRow Tryz.prog 155 ⟨Tryz.f155, none⟩ := .mk0 Tryz.func155 (by kernel_rfl) (by kernel_rfl)
theorem fok156 : FnRow Tryz.prog 156 ⟨Tryz.f156, none⟩ := .mk0 Tryz.func156 (by kernel_rfl) (by kernel_rfl)
theorem fok157 : FnRow Tryz.prog 157 ⟨Tryz.f157, none⟩ := .mk0 Tryz.func157 (by kernel_rfl) (by kernel_rfl)
theorem fok158 : FnRow Tryz.prog 158 ⟨Tryz.f158, none⟩ := .mk0 Tryz.func158 (by kernel_rfl) (by kernel_rfl)
theorem fok159 : FnRow Tryz.prog 159 ⟨Tryz.f159, none⟩ := .mk0 Tryz.func159 (by kernel_rfl) (by kernel_rfl)
theorem fok160 : FnRow Tryz.prog 160 ⟨Tryz.f160, none⟩ := .mk0 Tryz.func160 (by kernel_rfl) (by kernel_rfl)
theorem fok161 : FnRow Tryz.prog 161 ⟨Tryz.f161, none⟩ := .mk0 Tryz.func161 (by kernel_rfl) (by kernel_rfl)
theorem fok162 : FnRow Tryz.prog 162 ⟨Tryz.f162, none⟩ := .mk0 Tryz.func162 (by kernel_rfl) (by kernel_rfl)
theorem fok163 : FnRow Tryz.prog 163 ⟨Tryz.f163, none⟩ := .mk0 Tryz.func163 (by kernel_rfl) (by kernel_rfl)
theorem fok164 : FnRow Tryz.prog 164 ⟨Tryz.f164, none⟩ := .mk0 Tryz.func164 (by kernel_rfl) (by kernel_rfl)
theorem fok165 : FnRow Tryz.prog 165 ⟨Tryz.f165, none⟩ := .mk0 Tryz.func165 (by kernel_rfl) (by kernel_rfl)
theorem fok166 : FnRow Tryz.prog 166 ⟨Tryz.f166, none⟩ := .mk0 Tryz.func166 (by kernel_rfl) (by kernel_rfl)
theorem fok167 : FnRow Tryz.prog 167 ⟨Tryz.f167, none⟩ := .mk0 Tryz.func167 (by kernel_rfl) (by kernel_rfl)
theorem fok168 : FnRow Tryz.prog 168 ⟨Tryz.f168, none⟩ := .mk0 Tryz.func168 (by kernel_rfl) (by kernel_rfl)
theorem fok169 : FnRow Tryz.prog 169 ⟨Tryz.f169, none⟩ := .mk0 Tryz.func169 (by kernel_rfl) (by kernel_rfl)
theorem fok170 : FnRow Tryz.prog 170 ⟨Tryz.f170, none⟩ := .mk0 Tryz.func170 (by kernel_rfl) (by kernel_rfl)
theorem fok171 : FnRow Tryz.prog 171 ⟨Tryz.f171, none⟩ := .mk0 Tryz.func171 (by kernel_rfl) (by kernel_rfl)
theorem fok172 : FnRow Tryz.prog 172 ⟨Tryz.f172, none⟩ := .mk0 Tryz.func172 (by kernel_rfl) (by kernel_rfl)
theorem fok173 : FnRow Tryz.prog 173 ⟨Tryz.f173, none⟩ := .mk0 Tryz.func173 (by kernel_rfl) (by kernel_rfl)
theorem fok174 : FnRow Tryz.prog 174 ⟨Tryz.f174, none⟩ := .mk0 Tryz.func174 (by kernel_rfl) (by kernel_rfl)
theorem fok175 : FnRow Tryz.prog 175 ⟨Tryz.f175, none⟩ := .mk0 Tryz.func175 (by kernel_rfl) (by kernel_rfl)
theorem fok176 : FnRow Tryz.prog 176 ⟨Tryz.f176, none⟩ := .mk0 Tryz.func176 (by kernel_rfl) (by kernel_rfl)
theorem fok177 : FnRow Tryz.prog 177 ⟨Tryz.f177, none⟩ := .mk0 Tryz.func177 (by kernel_rfl) (by kernel_rfl)
theorem fok178 : FnRow Tryz.prog 178 ⟨Tryz.f178, none⟩ := .mk0 Tryz.func178 (by kernel_rfl) (by kernel_rfl)
theorem fok179 : FnRow Tryz.prog 179 ⟨Tryz.f179, none⟩ := .mk0 Tryz.func179 (by kernel_rfl) (by kernel_rfl)
theorem fok180 : FnRow Tryz.prog 180 ⟨Tryz.f180, none⟩ := .mk0 Tryz.func180 (by kernel_rfl) (by kernel_rfl)
theorem fok181 : FnRow Tryz.prog 181 ⟨Tryz.f181, none⟩ := .mk0 Tryz.func181 (by kernel_rfl) (by kernel_rfl)
theorem fok182 : FnRow Tryz.prog 182 ⟨Tryz.f182, none⟩ := .mk0 Tryz.func182 (by kernel_rfl) (by kernel_rfl)
theorem fok183 : FnRow Tryz.prog 183 ⟨Tryz.f183, none⟩ := .mk0 Tryz.func183 (by kernel_rfl) (by kernel_rfl)
theorem fok184 : FnRow Tryz.prog 184 ⟨Tryz.f184, none⟩ := .mk0 Tryz.func184 (by kernel_rfl) (by kernel_rfl)
theorem fok185 : FnRow Tryz.prog 185 ⟨Tryz.f185, none⟩ := .mk0 Tryz.func185 (by kernel_rfl) (by kernel_rfl)
theorem fok186 : FnRow Tryz.prog 186 ⟨Tryz.f186, none⟩ := .mk0 Tryz.func186 (by kernel_rfl) (by kernel_rfl)
theorem fok187 : FnRow Tryz.prog 187 ⟨Tryz.f187, none⟩ := .mk0 Tryz.func187 (by kernel_rfl) (by kernel_rfl)
theorem fok188 : FnRow Tryz.prog 188 ⟨Tryz.f188, none⟩ := .mk0 Tryz.func188 (by kernel_rfl) (by kernel_rfl)
theorem fok189 : FnRow Tryz.prog 189 ⟨Tryz.f189, none⟩ := .mk0 Tryz.func189 (by kernel_rfl) (by kernel_rfl)
theorem fok190 : FnRow Tryz.prog 190 ⟨Tryz.f190, none⟩ := .mk0 Tryz.func190 (by kernel_rfl) (by kernel_rfl)
theorem fok191 : FnRow Tryz.prog 191 ⟨Tryz.f191, none⟩ := .mk0 Tryz.func191 (by kernel_rfl) (by kernel_rfl)
theorem fok192 : FnRow Tryz.prog 192 ⟨Tryz.f192, none⟩ := .mk0 Tryz.func192 (by kernel_rfl) (by kernel_rfl)
theorem fok193 : FnRow Tryz.prog 193 ⟨Tryz.f193, none⟩ := .mk0 Tryz.func193 (by kernel_rfl) (by kernel_rfl)
theorem fok194 : FnRow Tryz.prog 194 ⟨Tryz.f194, none⟩ := .mk0 Tryz.func194 (by kernel_rfl) (by kernel_rfl)
theorem fok195 : FnRow Tryz.prog 195 ⟨Tryz.f195, none⟩ := .mk0 Tryz.func195 (by kernel_rfl) (by kernel_rfl)
theorem fok196 : FnRow Tryz.prog 196 ⟨Tryz.f196, none⟩ := .mk0 Tryz.func196 (by kernel_rfl) (by kernel_rfl)
theorem fok197 : FnRow Tryz.prog 197 ⟨Tryz.f197, none⟩ := .mk0 Tryz.func197 (by kernel_rfl) (by kernel_rfl)
theorem fok198 : FnRow Tryz.prog 198 ⟨Tryz.f198, none⟩ := .mk0 Tryz.func198 (by kernel_rfl) (by kernel_rfl)
theorem fok199 : FnRow Tryz.prog 199 ⟨Tryz.f199, none⟩ := .mk0 Tryz.func199 (by kernel_rfl) (by kernel_rfl)
theorem fok200 : FnRow Tryz.prog 200 ⟨Tryz.f200, none⟩ := .mk0 Tryz.func200 (by kernel_rfl) (by kernel_rfl)
theorem fok201 : FnRow Tryz.prog 201 ⟨Tryz.f201, none⟩ := .mk0 Tryz.func201 (by kernel_rfl) (by kernel_rfl)
theorem fok202 : FnRow Tryz.prog 202 ⟨Tryz.f202, none⟩ := .mk0 Tryz.func202 (by kernel_rfl) (by kernel_rfl)
theorem fok203 : FnRow Tryz.prog 203 ⟨Tryz.f203, none⟩ := .mk0 Tryz.func203 (by kernel_rfl) (by kernel_rfl)
theorem fok204 : FnRow Tryz.prog 204 ⟨Tryz.f204, none⟩ := .mk0 Tryz.func204 (by kernel_rfl) (by kernel_rfl)
theorem fok205 : FnRow Tryz.prog 205 ⟨Tryz.f205, none⟩ := .mk0 Tryz.func205 (by kernel_rfl) (by kernel_rfl)
theorem fok206 : FnRow Tryz.prog 206 ⟨Tryz.f206, none⟩ := .mk0 Tryz.func206 (by kernel_rfl) (by kernel_rfl)
theorem fok207 : FnRow Tryz.prog 207 ⟨Tryz.f207, none⟩ := .mk0 Tryz.func207 (by kernel_rfl) (by kernel_rfl)
theorem fok208 : FnRow Tryz.prog 208 ⟨Tryz.f208, none⟩ := .mk0 Tryz.func208 (by kernel_rfl) (by kernel_rfl)
theorem fok209 : FnRow Tryz.prog 209 ⟨Tryz.f209, none⟩ := .mk0 Tryz.func209 (by kernel_rfl) (by kernel_rfl)
theorem fok210 : FnRow Tryz.prog 210 ⟨Tryz.f210, none⟩ := .mk0 Tryz.func210 (by kernel_rfl) (by kernel_rfl)
theorem fok211 : FnRow Tryz.prog 211 ⟨Tryz.f211, none⟩ := .mk0 Tryz.func211 (by kernel_rfl) (by kernel_rfl)
theorem fok212 : FnRow Tryz.prog 212 ⟨Tryz.f212, none⟩ := .mk0 Tryz.func212 (by kernel_rfl) (by kernel_rfl)
theorem fok213 : FnRow Tryz.prog 213 ⟨Tryz.f213, none⟩ := .mk0 Tryz.func213 (by kernel_rfl) (by kernel_rfl)
theorem fok214 : FnRow Tryz.prog 214 ⟨Tryz.f214, none⟩ := .mk0 Tryz.func214 (by kernel_rfl) (by kernel_rfl)
theorem fok215 : FnRow Tryz.prog 215 ⟨Tryz.f215, none⟩ := .mk0 Tryz.func215 (by kernel_rfl) (by kernel_rfl)
theorem fok216 : FnRow Tryz.prog 216 ⟨Tryz.f216, none⟩ := .mk0 Tryz.func216 (by kernel_rfl) (by kernel_rfl)
theorem fok217 : FnRow Tryz.prog 217 ⟨Tryz.f217, none⟩ := .mk0 Tryz.func217 (by kernel_rfl) (by kernel_rfl)
theorem fok218 : FnRow Tryz.prog 218 ⟨Tryz.f218, none⟩ := .mk0 Tryz.func218 (by kernel_rfl) (by kernel_rfl)
theorem fok219 : FnRow Tryz.prog 219 ⟨Tryz.f219, none⟩ := .mk0 Tryz.func219 (by kernel_rfl) (by kernel_rfl)
theorem fok220 : FnRow Tryz.prog 220 ⟨Tryz.f220, none⟩ := .mk0 Tryz.func220 (by kernel_rfl) (by kernel_rfl)
theorem fok221 : FnRow Tryz.prog 221 ⟨Tryz.f221, none⟩ := .mk0 Tryz.func221 (by kernel_rfl) (by kernel_rfl)
theorem fok222 : FnRow Tryz.prog 222 ⟨Tryz.f222, none⟩ := .mk0 Tryz.func222 (by kernel_rfl) (by kernel_rfl)
theorem fok223 : FnRow Tryz.prog 223 ⟨Tryz.f223, none⟩ := .mk0 Tryz.func223 (by kernel_rfl) (by kernel_rfl)
theorem fok224 : FnRow Tryz.prog 224 ⟨Tryz.f224, none⟩ := .mk0 Tryz.func224 (by kernel_rfl) (by kernel_rfl)
theorem fok225 : FnRow Tryz.prog 225 ⟨Tryz.f225, none⟩ := .mk0 Tryz.func225 (by kernel_rfl) (by kernel_rfl)
theorem fok226 : FnRow Tryz.prog 226 ⟨Tryz.f226, none⟩ := .mk0 Tryz.func226 (by kernel_rfl) (by kernel_rfl)
theorem fok227 : FnRow Tryz.prog 227 ⟨Tryz.f227, none⟩ := .mk0 Tryz.func227 (by kernel_rfl) (by kernel_rfl)
theorem fok228 : FnRow Tryz.prog 228 ⟨Tryz.f228, none⟩ := .mk0 Tryz.func228 (by kernel_rfl) (by kernel_rfl)
theorem fok229 : FnRow Tryz.prog 229 ⟨Tryz.f229, none⟩ := .mk0 Tryz.func229 (by kernel_rfl) (by kernel_rfl)
theorem fok230 : FnRow Tryz.prog 230 ⟨Tryz.f230, none⟩ := .mk0 Tryz.func230 (by kernel_rfl) (by kernel_rfl)
theorem fok231 : FnRow Tryz.prog 231 ⟨Tryz.f231, none⟩ := .mk0 Tryz.func231 (by kernel_rfl) (by kernel_rfl)
theorem fok232 : FnRow Tryz.prog 232 ⟨Tryz.f232, none⟩ := .mk0 Tryz.func232 (by kernel_rfl) (by kernel_rfl)
theorem fok233 : FnRow Tryz.prog 233 ⟨Tryz.f233, none⟩ := .mk0 Tryz.func233 (by kernel_rfl) (by kernel_rfl)
theorem fok234 : FnRow Tryz.prog 234 ⟨Tryz.f234, none⟩ := .mk0 Tryz.func234 (by kernel_rfl) (by kernel_rfl)
theorem fok235 : FnRow Tryz.prog 235 ⟨Tryz.f235, none⟩ := .mk0 Tryz.func235 (by kernel_rfl) (by kernel_rfl)
theorem fok236 : FnRow Tryz.prog 236 ⟨Tryz.f236, none⟩ := .mk0 Tryz.func236 (by kernel_rfl) (by kernel_rfl)
theorem fok237 : FnRow Tryz.prog 237 ⟨Tryz.f237, none⟩ := .mk0 Tryz.func237 (by kernel_rfl) (by kernel_rfl)
theorem fok238 : FnRow Tryz.prog 238 ⟨Tryz.f238, none⟩ := .mk0 Tryz.func238 (by kernel_rfl) (by kernel_rfl)
theorem fok239 : FnRow Tryz.prog 239 ⟨Tryz.f239, none⟩ := .mk0 Tryz.func239 (by kernel_rfl) (by kernel_rfl)
theorem fok240 : FnRow Tryz.prog 240 ⟨Tryz.f240, none⟩ := .mk0 Tryz.func240 (by kernel_rfl) (by kernel_rfl)
theorem fok241 : FnRow Tryz.prog 241 ⟨Tryz.f241, none⟩ := .mk0 Tryz.func241 (by kernel_rfl) (by kernel_rfl)
theorem fok243 : FnRow Tryz.prog 243 ⟨Tryz.f243, none⟩ := .mk0 Tryz.func243 (by kernel_rfl) (by kernel_rfl)
theorem fok244 : FnRow Tryz.prog 244 ⟨Tryz.f244, none⟩ := .mk0 Tryz.func244 (by kernel_rfl) (by kernel_rfl)
theorem fok245 : FnRow Tryz.prog 245 ⟨Tryz.f245, none⟩ := .mk0 Tryz.func245 (by kernel_rfl) (by kernel_rfl)
theorem fok246 : FnRow Tryz.prog 246 ⟨Tryz.f246, none⟩ := .mk0 Tryz.func246 (by kernel_rfl) (by kernel_rfl)
theorem fok247 : FnRow Tryz.prog 247 ⟨Tryz.f247, none⟩ := .mk0 Tryz.func247 (by kernel_rfl) (by kernel_rfl)
theorem fok248 : FnRow Tryz.prog 248 ⟨Tryz.f248, none⟩ := .mk0 Tryz.func248 (by kernel_rfl) (by kernel_rfl)
theorem fok249 : FnRow Tryz.prog 249 ⟨Tryz.f249, none⟩ := .mk0 Tryz.func249 (by kernel_rfl) (by kernel_rfl)
theorem fok250 : FnRow Tryz.prog 250 ⟨Tryz.f250, none⟩ := .mk0 Tryz.func250 (by kernel_rfl) (by kernel_rfl)
theorem fok251 : FnRow Tryz.prog 251 ⟨Tryz.f251, none⟩ := .mk0 Tryz.func251 (by kernel_rfl) (by kernel_rfl)
theorem fok252 : FnRow Tryz.prog 252 ⟨Tryz.f252, none⟩ := .mk0 Tryz.func252 (by kernel_rfl) (by kernel_rfl)
theorem fok253 : FnRow Tryz.prog 253 ⟨Tryz.f253, none⟩ := .mk0 Tryz.func253 (by kernel_rfl) (by kernel_rfl)
theorem fok254 : FnRow Tryz.prog 254 ⟨Tryz.f254, none⟩ := .mk0 Tryz.func254 (by kernel_rfl) (by kernel_rfl)
theorem fok255 : FnRow Tryz.prog 255 ⟨Tryz.f255, none⟩ := .mk0 Tryz.func255 (by kernel_rfl) (by kernel_rfl)
theorem fok256 : FnRow Tryz.prog 256 ⟨Tryz.f256, none⟩ := .mk0 Tryz.func256 (by kernel_rfl) (by kernel_rfl)
theorem fok257 : FnRow Tryz.prog 257 ⟨Tryz.f257, none⟩ := .mk0 Tryz.func257 (by kernel_rfl) (by kernel_rfl)
theorem fok258 : FnRow Tryz.prog 258 ⟨Tryz.f258, none⟩ := .mk0 Tryz.func258 (by kernel_rfl) (by kernel_rfl)
theorem fok259 : FnRow Tryz.prog 259 ⟨Tryz.f259, none⟩ := .mk0 Tryz.func259 (by kernel_rfl) (by kernel_rfl)
theorem fok260 : FnRow Tryz.prog 260 ⟨Tryz.f260, none⟩ := .mk0 Tryz.func260 (by kernel_rfl) (by kernel_rfl)
theorem fok261 : FnRow Tryz.prog 261 ⟨Tryz.f261, none⟩ := .mk0 Tryz.func261 (by kernel_rfl) (by kernel_rfl)
theorem fok262 : FnRow Tryz.prog 262 ⟨Tryz.f262, none⟩ := .mk0 Tryz.func262 (by kernel_rfl) (by kernel_rfl)
theorem fok263 : FnRow Tryz.prog 263 ⟨Tryz.f263, none⟩ := .mk0 Tryz.func263 (by kernel_rfl) (by kernel_rfl)
theorem fok264 : FnRow Tryz.prog 264 ⟨Tryz.f264, none⟩ := .mk0 Tryz.func264 (by kernel_rfl) (by kernel_rfl)
theorem fok265 : FnRow Tryz.prog 265 ⟨Tryz.f265, none⟩ := .mk0 Tryz.func265 (by kernel_rfl) (by kernel_rfl)
theorem fok266 : FnRow Tryz.prog 266 ⟨Tryz.f266, some .indexByte⟩ := .mkIdx Tryz.func266 (by kernel_rfl) (by kernel_rfl) (by kernel_rfl) (by kernel_rfl)
theorem fok267 : FnRow Tryz.prog 267 ⟨Tryz.f267, none⟩ := .mk0 Tryz.func267 (by kernel_rfl) (by kernel_rfl)
theorem fok268 : FnRow Tryz.prog 268 ⟨Tryz.f268, none⟩ := .mk0 Tryz.func268 (by kernel_rfl) (by kernel_rfl)
theorem fok269 : FnRow Tryz.prog 269 ⟨Tryz.f269, none⟩ := .mk0 Tryz.func269 (by kernel_rfl) (by kernel_rfl)
theorem fok270 : FnRow Tryz.prog 270 ⟨Tryz.f270, none⟩ := .mk0 Tryz.func270 (by kernel_rfl) (by kernel_rfl)
theorem fok271 : FnRow Tryz.prog 271 ⟨Tryz.f271, none⟩ := .mk0 Tryz.func271 (by kernel_rfl) (by kernel_rfl)
theorem fok272 : FnRow Tryz.prog 272 ⟨Tryz.f272, none⟩ := .mk0 Tryz.func272 (by kernel_rfl) (by kernel_rfl)
theorem fok273 : FnRow Tryz.prog 273 ⟨Tryz.f273, none⟩ := .mk0 Tryz.func273 (by kernel_rfl) (by kernel_rfl)
theorem fok274 : FnRow Tryz.prog 274 ⟨Tryz.f274, none⟩ := .mk0 Tryz.func274 (by kernel_rfl) (by kernel_rfl)
theorem fok275 : FnRow Tryz.prog 275 ⟨Tryz.f275, none⟩ := .mk0 Tryz.func275 (by kernel_rfl) (by kernel_rfl)
theorem fok276 : FnRow Tryz.prog 276 ⟨Tryz.f276, none⟩ := .mk0 Tryz.func276 (by kernel_rfl) (by kernel_rfl)
theorem fok277 : FnRow Tryz.prog 277 ⟨Tryz.f277, none⟩ := .mk0 Tryz.func277 (by kernel_rfl) (by kernel_rfl)
theorem fok278 : FnRow Tryz.prog 278 ⟨Tryz.f278, none⟩ := .mk0 Tryz.func278 (by kernel_rfl) (by kernel_rfl)
theorem fok279 : FnRow Tryz.prog 279 ⟨Tryz.f279, none⟩ := .mk0 Tryz.func279 (by kernel_rfl) (by kernel_rfl)
theorem fok280 : FnRow Tryz.prog 280 ⟨Tryz.f280, none⟩ := .mk0 Tryz.func280 (by kernel_rfl) (by kernel_rfl)
theorem fok281 : FnRow Tryz.prog 281 ⟨Tryz.f281, none⟩ := .mk0 Tryz.func281 (by kernel_rfl) (by kernel_rfl)
theorem fok282 : FnRow Tryz.prog 282 ⟨Tryz.f282, none⟩ := .mk0 Tryz.func282 (by kernel_rfl) (by kernel_rfl)
theorem fok283 : FnRow Tryz.prog 283 ⟨Tryz.f283, none⟩ := .mk0 Tryz.func283 (by kernel_rfl) (by kernel_rfl)
theorem fok284 : FnRow Tryz.prog 284 ⟨Tryz.f284, none⟩ := .mk0 Tryz.func284 (by kernel_rfl) (by kernel_rfl)
theorem fok285 : FnRow Tryz.prog 285 ⟨Tryz.f285, none⟩ := .mk0 Tryz.func285 (by kernel_rfl) (by kernel_rfl)
theorem fok286 : FnRow Tryz.prog 286 ⟨Tryz.f286, none⟩ := .mk0 Tryz.func286 (by kernel_rfl) (by kernel_rfl)
theorem fok287 : FnRow Tryz.prog 287 ⟨Tryz.f287, none⟩ := .mk0 Tryz.func287 (by kernel_rfl) (by kernel_rfl)
theorem fok288 : FnRow Tryz.prog 288 ⟨Tryz.f288, none⟩ := .mk0 Tryz.func288 (by kernel_rfl) (by kernel_rfl)
theorem fok289 : FnRow Tryz.prog 289 ⟨Tryz.f289, none⟩ := .mk0 Tryz.func289 (by kernel_rfl) (by kernel_rfl)
theorem fok290 : FnRow Tryz.prog 290 ⟨Tryz.f290, none⟩ := .mk0 Tryz.func290 (by kernel_rfl) (by kernel_rfl)
theorem fok291 : FnRow Tryz.prog 291 ⟨Tryz.f291, none⟩ := .mk0 Tryz.func291 (by kernel_rfl) (by kernel_rfl)
theorem fok292 : FnRow Tryz.prog 292 ⟨Tryz.f292, none⟩ := .mk0 Tryz.func292 (by kernel_rfl) (by kernel_rfl)
theorem fok293 : FnRow Tryz.prog 293 ⟨Tryz.f293, none⟩ := .mk0 Tryz.func293 (by kernel_rfl) (by kernel_rfl)
theorem fok294 : FnRow Tryz.prog 294 ⟨Tryz.f294, none⟩ := .mk0 Tryz.func294 (by kernel_rfl) (by kernel_rfl)
theorem fok295 : FnRow Tryz.prog 295 ⟨Tryz.f295, none⟩ := .mk0 Tryz.func295 (by kernel_rfl) (by kernel_rfl)
theorem fok296 : FnRow Tryz.prog 296 ⟨Tryz.f296, none⟩ := .mk0 Tryz.func296 (by kernel_rfl) (by kernel_rfl)
theorem fok297 : FnRow Tryz.prog 297 ⟨Tryz.f297, none⟩ := .mk0 Tryz.func297 (by kernel_rfl) (by kernel_rfl)
theorem fok298 : FnRow Tryz.prog 298 ⟨Tryz.f298, none⟩ := .mk0 Tryz.func298 (by kernel_rfl) (by kernel_rfl)
theorem fok299 : FnRow Tryz.prog 299 ⟨Tryz.f299, none⟩ := .mk0 Tryz.func299 (by kernel_rfl) (by kernel_rfl)
theorem fok300 : FnRow Tryz.prog 300 ⟨Tryz.f300, some .same⟩ := .mkSame Tryz.func300 (by kernel_rfl) (by kernel_rfl) (by kernel_rfl) (by kernel_rfl)
theorem fok332 : FnRow Tryz.prog 332 ⟨Tryz.f332, none⟩ := .mk0 Tryz.func332 (by kernel_rfl) (by kernel_rfl)
theorem typesOK : T.AllK (TyRow Tryz.prog 396) 1 0 typesT :=
  ⟨tok0, ⟨tok1, ⟨tok3, ⟨tok7, ⟨tok15, ⟨tok31, ⟨tok63, ⟨tok127, ⟨tok255, trivial, trivial⟩, ⟨tok383, trivial, trivial⟩⟩, ⟨tok191, ⟨tok319, trivial, trivial⟩, trivial⟩⟩, ⟨tok95, ⟨tok159, ⟨tok287, trivial, trivial⟩, trivial⟩, ⟨tok223, ⟨tok351, trivial, trivial⟩, trivial⟩⟩⟩, ⟨tok47, ⟨tok79, ⟨tok143, ⟨tok271, trivial, trivial⟩, trivial⟩, ⟨tok207, ⟨tok335, trivial, trivial⟩, trivial⟩⟩, ⟨tok111, ⟨tok175, ⟨tok303, trivial, trivial⟩, trivial⟩, ⟨tok239, ⟨tok367, trivial, trivial⟩, trivial⟩⟩⟩⟩, ⟨tok23, ⟨tok39, ⟨tok71, ⟨tok135, ⟨tok263, trivial, trivial⟩, ⟨tok391, trivial, trivial⟩⟩, ⟨tok199, ⟨tok327, trivial, trivial⟩, trivial⟩⟩, ⟨tok103, ⟨tok167, ⟨tok295, trivial, trivial⟩, trivial⟩, ⟨tok231, ⟨tok359, trivial, trivial⟩, trivial⟩⟩⟩, ⟨tok55, ⟨tok87, ⟨tok151, ⟨tok279, trivial, trivial⟩, trivial⟩, ⟨tok215, ⟨tok343, trivial, trivial⟩, trivial⟩⟩, ⟨tok119, ⟨tok183, ⟨tok311, trivial, trivial⟩, trivial⟩, ⟨tok247, ⟨tok375, trivial, trivial⟩, trivial⟩⟩⟩⟩⟩, ⟨tok11, ⟨tok19, ⟨tok35, ⟨tok67, ⟨tok131, ⟨tok259, trivial, trivial⟩, ⟨tok387, trivial, trivial⟩⟩, ⟨tok195, ⟨tok323, trivial, trivial⟩, trivial⟩⟩, ⟨tok99, ⟨tok163, ⟨tok291, trivial, trivial⟩, trivial⟩, ⟨tok227, ⟨tok355, trivial, trivial⟩, trivial⟩⟩⟩, ⟨tok51, ⟨tok83, ⟨tok147, ⟨tok275, trivial, trivial⟩, trivial⟩, ⟨tok211, ⟨tok339, trivial, trivial⟩, trivial⟩⟩, ⟨tok115, ⟨tok179, ⟨tok307, trivial, trivial⟩, trivial⟩, ⟨tok243, ⟨tok371, trivial, trivial⟩, trivial⟩⟩⟩⟩, ⟨tok27, ⟨tok43, ⟨tok75, ⟨tok139, ⟨tok267, trivial, trivial⟩, ⟨tok395, trivial, trivial⟩⟩, ⟨tok203, ⟨tok331, trivial, trivial⟩, trivial⟩⟩, ⟨tok107, ⟨tok171, ⟨tok299, trivial, trivial⟩, trivial⟩, ⟨tok235, ⟨tok363, trivial, trivial⟩, trivial⟩⟩⟩, ⟨tok59, ⟨tok91, ⟨tok155, ⟨tok283, trivial, trivial⟩, trivial⟩, ⟨tok219, ⟨tok347, trivial, trivial⟩, trivial⟩⟩, ⟨tok123, ⟨tok187, ⟨tok315, trivial, trivial⟩, trivial⟩, ⟨tok251, ⟨tok379, trivial, trivial⟩, trivial⟩⟩⟩⟩⟩⟩, ⟨tok5, ⟨tok9, ⟨tok17, ⟨tok33, ⟨tok65, ⟨tok129, ⟨tok257, trivial, trivial⟩, ⟨tok385, trivial, trivial⟩⟩, ⟨tok193, ⟨tok321, trivial, trivial⟩, trivial⟩⟩, ⟨tok97, ⟨tok161, ⟨tok289, trivial, trivial⟩, trivial⟩, ⟨tok225, ⟨tok353, trivial, trivial⟩, trivial⟩⟩⟩, ⟨tok49, ⟨tok81, ⟨tok145, ⟨tok273, trivial, trivial⟩, trivial⟩, ⟨tok209, ⟨tok337, trivial, trivial⟩, trivial⟩⟩, ⟨tok113, ⟨tok177, ⟨tok305, trivial, trivial⟩, trivial⟩, ⟨tok241, ⟨tok369, trivial, trivial⟩, trivial⟩⟩⟩⟩, ⟨tok25, ⟨tok41, ⟨tok73, ⟨tok137, ⟨tok265, trivial, trivial⟩, ⟨tok393, trivial, trivial⟩⟩, ⟨tok201, ⟨tok329, trivial, trivial⟩, trivial⟩⟩, ⟨tok105, ⟨tok169, ⟨tok297, trivial, trivial⟩, trivial⟩, ⟨tok233, ⟨tok361, trivial, trivial⟩, trivial⟩⟩⟩, ⟨tok57, ⟨tok89, ⟨tok153, ⟨tok281, trivial, trivial⟩, trivial⟩, ⟨tok217, ⟨tok345, trivial, trivial⟩, trivial⟩⟩, ⟨tok121, ⟨tok185, ⟨tok313, trivial, trivial⟩, trivial⟩, ⟨tok249, ⟨tok377, trivial, trivial⟩, trivial⟩⟩⟩⟩⟩, ⟨tok13, ⟨tok21, ⟨tok37, ⟨tok69, ⟨tok133, ⟨tok261, trivial, trivial⟩, ⟨tok389, trivial, trivial⟩⟩, ⟨tok197, ⟨tok325, trivial, trivial⟩, trivial⟩⟩, ⟨tok101, ⟨tok165, ⟨tok293, trivial, trivial⟩, trivial⟩, ⟨tok229, ⟨tok357, trivial, trivial⟩, trivial⟩⟩⟩, ⟨tok53, ⟨tok85, ⟨tok149, ⟨tok277, trivial, trivial⟩, trivial⟩, ⟨tok213, ⟨tok341, trivial, trivial⟩, trivial⟩⟩, ⟨tok117, ⟨tok181, ⟨tok309, trivial, trivial⟩, trivial⟩, ⟨tok245, ⟨tok373, trivial, trivial⟩, trivial⟩⟩⟩⟩, ⟨tok29, ⟨tok45, ⟨tok77, ⟨tok141, ⟨tok269, trivial, trivial⟩, trivial⟩, ⟨tok205, ⟨tok333, trivial, trivial⟩, trivial⟩⟩, ⟨tok109, ⟨tok173, ⟨tok301, trivial, trivial⟩, trivial⟩, ⟨tok237, ⟨tok365, trivial, trivial⟩, trivial⟩⟩⟩, ⟨tok61, ⟨tok93, ⟨tok157, ⟨tok285, trivial, trivial⟩, trivial⟩, ⟨tok221, ⟨tok349, trivial, trivial⟩, trivial⟩⟩, ⟨tok125, ⟨tok189, ⟨tok317, trivial, trivial⟩, trivial⟩, ⟨tok253, ⟨tok381, trivial, trivial⟩, trivial⟩⟩⟩⟩⟩⟩⟩, ⟨tok2, ⟨tok4, ⟨tok8, ⟨tok16, ⟨tok32, ⟨tok64, ⟨tok128, ⟨tok256, trivial, trivial⟩, ⟨tok384, trivial, trivial⟩⟩, ⟨tok192, ⟨tok320, trivial, trivial⟩, trivial⟩⟩, ⟨tok96, ⟨tok160, ⟨tok288, trivial, trivial⟩, trivial⟩, ⟨tok224, ⟨tok352, trivial, trivial⟩, trivial⟩⟩⟩, ⟨tok48, ⟨tok80, ⟨tok144, ⟨tok272, trivial, trivial⟩, trivial⟩, ⟨tok208, ⟨tok336, trivial, trivial⟩, trivial⟩⟩, ⟨tok112, ⟨tok176, ⟨tok304, trivial, trivial⟩, trivial⟩, ⟨tok240, ⟨tok368, trivial, trivial⟩, trivial⟩⟩⟩⟩, ⟨tok24, ⟨tok40, ⟨tok72, ⟨tok136, ⟨tok264, trivial, trivial⟩, ⟨tok392, trivial, trivial⟩⟩, ⟨tok200, ⟨tok328, trivial, trivial⟩, trivial⟩⟩, ⟨tok104, ⟨tok168, ⟨tok296, trivial, trivial⟩, trivial⟩, ⟨tok232, ⟨tok360, trivial, trivial⟩, trivial⟩⟩⟩, ⟨tok56, ⟨tok88, ⟨tok152, ⟨tok280, trivial, trivial⟩, trivial⟩, ⟨tok216, ⟨tok344, trivial, trivial⟩, trivial⟩⟩, ⟨tok120, ⟨tok184, ⟨tok312, trivial, trivial⟩, trivial⟩, ⟨tok248, ⟨tok376, trivial, trivial⟩, trivial⟩⟩⟩⟩⟩, ⟨tok12, ⟨tok20, ⟨tok36, ⟨tok68, ⟨tok132, ⟨tok260, trivial, trivial⟩, ⟨tok388, trivial, trivial⟩⟩, ⟨tok196, ⟨tok324, trivial, trivial⟩, trivial⟩⟩, ⟨tok100, ⟨tok164, ⟨tok292, trivial, trivial⟩, trivial⟩, ⟨tok228, ⟨tok356, trivial, trivial⟩, trivial⟩⟩⟩, ⟨tok52, ⟨tok84, ⟨tok148, ⟨tok276, trivial, trivial⟩, trivial⟩, ⟨tok212, ⟨tok340, trivial, trivial⟩, trivial⟩⟩, ⟨tok116, ⟨tok180, ⟨tok308, trivial, trivial⟩, trivial⟩, ⟨tok244, ⟨tok372, trivial, trivial⟩, trivial⟩⟩⟩⟩, ⟨tok28, ⟨tok44, ⟨tok76, ⟨tok140, ⟨tok268, trivial, trivial⟩, trivial⟩, ⟨tok204, ⟨tok332, trivial, trivial⟩, trivial⟩⟩, ⟨tok108, ⟨tok172, ⟨tok300, trivial, trivial⟩, trivial⟩, ⟨tok236, ⟨tok364, trivial, trivial⟩, trivial⟩⟩⟩, ⟨tok60, ⟨tok92, ⟨tok156, ⟨tok284, trivial, trivial⟩, trivial⟩, ⟨tok220, ⟨tok348, trivial, trivial⟩, trivial⟩⟩, ⟨tok124, ⟨tok188, ⟨tok316, trivial, trivial⟩, trivial⟩, ⟨tok252, ⟨tok380, trivial, trivial⟩, trivial⟩⟩⟩⟩⟩⟩, ⟨tok6, ⟨tok10, ⟨tok18, ⟨tok34, ⟨tok66, ⟨tok130, ⟨tok258, trivial, trivial⟩, ⟨tok386, trivial, trivial⟩⟩, ⟨tok194, ⟨tok322, trivial, trivial⟩, trivial⟩⟩, ⟨tok98, ⟨tok162, ⟨tok290, trivial, trivial⟩, trivial⟩, ⟨tok226, ⟨tok354, trivial, trivial⟩, trivial⟩⟩⟩, ⟨tok50, ⟨tok82, ⟨tok146, ⟨tok274, trivial, trivial⟩, trivial⟩, ⟨tok210, ⟨tok338, trivial, trivial⟩, trivial⟩⟩, ⟨tok114, ⟨tok178, ⟨tok306, trivial, trivial⟩, trivial⟩, ⟨tok242, ⟨tok370, trivial, trivial⟩, trivial⟩⟩⟩⟩, ⟨tok26, ⟨tok42, ⟨tok74, ⟨tok138, ⟨tok266, trivial, trivial⟩, ⟨tok394, trivial, trivial⟩⟩, ⟨tok202, ⟨tok330, trivial, trivial⟩, trivial⟩⟩, ⟨tok106, ⟨tok170, ⟨tok298, trivial, trivial⟩, trivial⟩, ⟨tok234, ⟨tok362, trivial, trivial⟩, trivial⟩⟩⟩, ⟨tok58, ⟨tok90, ⟨tok154, ⟨tok282, trivial, trivial⟩, trivial⟩, ⟨tok218, ⟨tok346, trivial, trivial⟩, trivial⟩⟩, ⟨tok122, ⟨tok186, ⟨tok314, trivial, trivial⟩, trivial⟩, ⟨tok250, ⟨tok378, trivial, trivial⟩, trivial⟩⟩⟩⟩⟩, ⟨tok14, ⟨tok22, ⟨tok38, ⟨tok70, ⟨tok134, ⟨tok262, trivial, trivial⟩, ⟨tok390, trivial, trivial⟩⟩, ⟨tok198, ⟨tok326, trivial, trivial⟩, trivial⟩⟩, ⟨tok102, ⟨tok166, ⟨tok294, trivial, trivial⟩, trivial⟩, ⟨tok230, ⟨tok358, trivial, trivial⟩, trivial⟩⟩⟩, ⟨tok54, ⟨tok86, ⟨tok150, ⟨tok278, trivial, trivial⟩, trivial⟩, ⟨tok214, ⟨tok342, trivial, trivial⟩, trivial⟩⟩, ⟨tok118, ⟨tok182, ⟨tok310, trivial, trivial⟩, trivial⟩, ⟨tok246, ⟨tok374, trivial, trivial⟩, trivial⟩⟩⟩⟩, ⟨tok30, ⟨tok46, ⟨tok78, ⟨tok142, ⟨tok270, trivial, trivial⟩, trivial⟩, ⟨tok206, ⟨tok334, trivial, trivial⟩, trivial⟩⟩, ⟨tok110, ⟨tok174, ⟨tok302, trivial, trivial⟩, trivial⟩, ⟨tok238, ⟨tok366, trivial, trivial⟩, trivial⟩⟩⟩, ⟨tok62, ⟨tok94, ⟨tok158, ⟨tok286, trivial, trivial⟩, trivial⟩, ⟨tok222, ⟨tok350, trivial, trivial⟩, trivial⟩⟩, ⟨tok126, ⟨tok190, ⟨tok318, trivial, trivial⟩, trivial⟩, ⟨tok254, ⟨tok382, trivial, trivial⟩, trivial⟩⟩⟩⟩⟩⟩⟩⟩
theorem funcsOK : T.AllK (FnRow Tryz.prog) 1 0 funcsT :=
  ⟨trivial, ⟨trivial, ⟨fok3, ⟨fok7, ⟨fok15, ⟨fok31, ⟨fok63, ⟨fok127, ⟨fok255, trivial, trivial⟩, trivial⟩, ⟨fok191, ⟨trivial, trivial, trivial⟩, trivial⟩⟩, ⟨fok95, ⟨fok159, ⟨fok287, trivial, trivial⟩, trivial⟩, ⟨fok223, trivial, trivial⟩⟩⟩, ⟨fok47, ⟨fok79, ⟨fok143, ⟨fok271, trivial, trivial⟩, trivial⟩, ⟨fok207, trivial, trivial⟩⟩, ⟨fok111, ⟨fok175, ⟨trivial, trivial, trivial⟩, trivial⟩, ⟨fok239, trivial, trivial⟩⟩⟩⟩, ⟨fok23, ⟨fok39, ⟨fok71, ⟨fok135, ⟨fok263, trivial, trivial⟩, trivial⟩, ⟨fok199, ⟨trivial, trivial, trivial⟩, trivial⟩⟩, ⟨fok103, ⟨fok167, ⟨fok295, trivial, trivial⟩, trivial⟩, ⟨fok231, trivial, trivial⟩⟩⟩, ⟨fok55, ⟨fok87, ⟨fok151, ⟨fok279, trivial, trivial⟩, trivial⟩, ⟨fok215, trivial, trivial⟩⟩, ⟨fok119, ⟨fok183, ⟨trivial, trivial, trivial⟩, trivial⟩, ⟨fok247, trivial, trivial⟩⟩⟩⟩⟩, ⟨fok11, ⟨fok19, ⟨fok35, ⟨fok67, ⟨fok131, ⟨fok259, trivial, trivial⟩, trivial⟩, ⟨fok195, ⟨trivial, trivial, trivial⟩, trivial⟩⟩, ⟨fok99, ⟨fok163, ⟨fok291, trivial, trivial⟩, trivial⟩, ⟨fok227, trivial, trivial⟩⟩⟩, ⟨fok51, ⟨fok83, ⟨fok147, ⟨fok275, trivial, trivial⟩, trivial⟩, ⟨fok211, trivial, trivial⟩⟩, ⟨fok115, ⟨fok179, ⟨trivial, trivial, trivial⟩, trivial⟩, ⟨fok243, trivial, trivial⟩⟩⟩⟩, ⟨fok27, ⟨fok43, ⟨fok75, ⟨fok139, ⟨fok267, trivial, trivial⟩, trivial⟩, ⟨fok203, ⟨trivial, trivial, trivial⟩, trivial⟩⟩, ⟨fok107, ⟨fok171, ⟨fok299, trivial, trivial⟩, trivial⟩, ⟨fok235, trivial, trivial⟩⟩⟩, ⟨fok59, ⟨fok91, ⟨fok155, ⟨fok283, trivial, trivial⟩, trivial⟩, ⟨fok219, trivial, trivial⟩⟩, ⟨fok123, ⟨fok187, ⟨trivial, trivial, trivial⟩, trivial⟩, ⟨fok251, trivial, trivial⟩⟩⟩⟩⟩⟩, ⟨fok5, ⟨fok9, ⟨fok17, ⟨fok33, ⟨fok65, ⟨fok129, ⟨fok257, trivial, trivial⟩, trivial⟩, ⟨fok193, ⟨trivial, trivial, trivial⟩, trivial⟩⟩, ⟨fok97, ⟨fok161, ⟨fok289, trivial, trivial⟩, trivial⟩, ⟨fok225, trivial, trivial⟩⟩⟩, ⟨fok49, ⟨fok81, ⟨fok145, ⟨fok273, trivial, trivial⟩, trivial⟩, ⟨fok209, trivial, trivial⟩⟩, ⟨fok113, ⟨fok177, ⟨trivial, trivial, trivial⟩, trivial⟩, ⟨fok241, trivial, trivial⟩⟩⟩⟩, ⟨fok25, ⟨fok41, ⟨fok73, ⟨fok137, ⟨fok265, trivial, trivial⟩, trivial⟩, ⟨fok201, ⟨trivial, trivial, trivial⟩, trivial⟩⟩, ⟨fok105, ⟨fok169, ⟨fok297, trivial, trivial⟩, trivial⟩, ⟨fok233, trivial, trivial⟩⟩⟩, ⟨fok57, ⟨fok89, ⟨fok153, ⟨fok281, trivial, trivial⟩, trivial⟩, ⟨fok217, trivial, trivial⟩⟩, ⟨fok121, ⟨fok185, ⟨trivial, trivial, trivial⟩, trivial⟩, ⟨fok249, trivial, trivial⟩⟩⟩⟩⟩, ⟨fok13, ⟨fok21, ⟨fok37, ⟨fok69, ⟨fok133, ⟨fok261, trivial, trivial⟩, trivial⟩, ⟨fok197, ⟨trivial, trivial, trivial⟩, trivial⟩⟩, ⟨fok101, ⟨fok165, ⟨fok293, trivial, trivial⟩, trivial⟩, ⟨fok229, trivial, trivial⟩⟩⟩, ⟨fok53, ⟨fok85, ⟨fok149, ⟨fok277, trivial, trivial⟩, trivial⟩, ⟨fok213, trivial, trivial⟩⟩, ⟨fok117, ⟨fok181, ⟨trivial, trivial, trivial⟩, trivial⟩, ⟨fok245, trivial, trivial⟩⟩⟩⟩, ⟨fok29, ⟨fok45, ⟨fok77, ⟨fok141, ⟨fok269, trivial, trivial⟩, trivial⟩, ⟨fok205, trivial, trivial⟩⟩, ⟨fok109, ⟨fok173, ⟨trivial, trivial, trivial⟩, trivial⟩, ⟨fok237, trivial, trivial⟩⟩⟩, ⟨fok61, ⟨fok93, ⟨fok157, ⟨fok285, trivial, trivial⟩, trivial⟩, ⟨fok221, trivial, trivial⟩⟩, ⟨fok125, ⟨fok189, ⟨trivial, trivial, trivial⟩, trivial⟩, ⟨fok253, trivial, trivial⟩⟩⟩⟩⟩⟩⟩, ⟨fok2, ⟨fok4, ⟨fok8, ⟨fok16, ⟨fok32, ⟨fok64, ⟨fok128, ⟨fok256, trivial, trivial⟩, trivial⟩, ⟨fok192, ⟨trivial, trivial, trivial⟩, trivial⟩⟩, ⟨fok96, ⟨fok160, ⟨fok288, trivial, trivial⟩, trivial⟩, ⟨fok224, trivial, trivial⟩⟩⟩, ⟨fok48, ⟨fok80, ⟨fok144, ⟨fok272, trivial, trivial⟩, trivial⟩, ⟨fok208, trivial, trivial⟩⟩, ⟨fok112, ⟨fok176, ⟨trivial, trivial, trivial⟩, trivial⟩, ⟨fok240, trivial, trivial⟩⟩⟩⟩, ⟨fok24, ⟨fok40, ⟨fok72, ⟨fok136, ⟨fok264, trivial, trivial⟩, trivial⟩, ⟨fok200, ⟨trivial, trivial, trivial⟩, trivial⟩⟩, ⟨fok104, ⟨fok168, ⟨fok296, trivial, trivial⟩, trivial⟩, ⟨fok232, trivial, trivial⟩⟩⟩, ⟨fok56, ⟨fok88, ⟨fok152, ⟨fok280, trivial, trivial⟩, trivial⟩, ⟨fok216, trivial, trivial⟩⟩, ⟨fok120, ⟨fok184, ⟨trivial, trivial, trivial⟩, trivial⟩, ⟨fok248, trivial, trivial⟩⟩⟩⟩⟩, ⟨fok12, ⟨fok20, ⟨fok36, ⟨fok68, ⟨fok132, ⟨fok260, trivial, trivial⟩, trivial⟩, ⟨fok196, ⟨trivial, trivial, trivial⟩, trivial⟩⟩, ⟨fok100, ⟨fok164, ⟨fok292, trivial, trivial⟩, trivial⟩, ⟨fok228, trivial, trivial⟩⟩⟩, ⟨fok52, ⟨fok84, ⟨fok148, ⟨fok276, trivial, trivial⟩, trivial⟩, ⟨fok212, trivial, trivial⟩⟩, ⟨fok116, ⟨fok180, ⟨trivial, trivial, trivial⟩, trivial⟩, ⟨fok244, trivial, trivial⟩⟩⟩⟩, ⟨fok28, ⟨fok44, ⟨fok76, ⟨fok140, ⟨fok268, trivial, trivial⟩, trivial⟩, ⟨fok204, ⟨fok332, trivial, trivial⟩, trivial⟩⟩, ⟨fok108, ⟨fok172, ⟨fok300, trivial, trivial⟩, trivial⟩, ⟨fok236, trivial, trivial⟩⟩⟩, ⟨fok60, ⟨fok92, ⟨fok156, ⟨fok284, trivial, trivial⟩, trivial⟩, ⟨fok220, trivial, trivial⟩⟩, ⟨fok124, ⟨fok188, ⟨trivial, trivial, trivial⟩, trivial⟩, ⟨fok252, trivial, trivial⟩⟩⟩⟩⟩⟩, ⟨fok6, ⟨fok10, ⟨fok18, ⟨fok34, ⟨fok66, ⟨fok130, ⟨fok258, trivial, trivial⟩, trivial⟩, ⟨fok194, ⟨trivial, trivial, trivial⟩, trivial⟩⟩, ⟨fok98, ⟨fok162, ⟨fok290, trivial, trivial⟩, trivial⟩, ⟨fok226, trivial, trivial⟩⟩⟩, ⟨fok50, ⟨fok82, ⟨fok146, ⟨fok274, trivial, trivial⟩, trivial⟩, ⟨fok210, trivial, trivial⟩⟩, ⟨fok114, ⟨fok178, ⟨trivial, trivial, trivial⟩, trivial⟩, ⟨trivial, trivial, trivial⟩⟩⟩⟩, ⟨fok26, ⟨fok42, ⟨fok74, ⟨fok138, ⟨fok266, trivial, trivial⟩, trivial⟩, ⟨fok202, ⟨trivial, trivial, trivial⟩, trivial⟩⟩, ⟨fok106, ⟨fok170, ⟨fok298, trivial, trivial⟩, trivial⟩, ⟨fok234, trivial, trivial⟩⟩⟩, ⟨fok58, ⟨fok90, ⟨fok154, ⟨fok282, trivial, trivial⟩, trivial⟩, ⟨fok218, trivial, trivial⟩⟩, ⟨fok122, ⟨fok186, ⟨trivial, trivial, trivial⟩, trivial⟩, ⟨fok250, trivial, trivial⟩⟩⟩⟩⟩, ⟨fok14, ⟨fok22, ⟨fok38, ⟨fok70, ⟨fok134, ⟨fok262, trivial, trivial⟩, trivial⟩, ⟨fok198, ⟨trivial, trivial, trivial⟩, trivial⟩⟩, ⟨fok102, ⟨fok166, ⟨fok294, trivial, trivial⟩, trivial⟩, ⟨fok230, trivial, trivial⟩⟩⟩, ⟨fok54, ⟨fok86, ⟨fok150, ⟨fok278, trivial, trivial⟩, trivial⟩, ⟨fok214, trivial, trivial⟩⟩, ⟨fok118, ⟨fok182, ⟨trivial, trivial, trivial⟩, trivial⟩, ⟨fok246, trivial, trivial⟩⟩⟩⟩, ⟨fok30, ⟨fok46, ⟨fok78, ⟨fok142, ⟨fok270, trivial, trivial⟩, trivial⟩, ⟨fok206, trivial, trivial⟩⟩, ⟨fok110, ⟨fok174, ⟨trivial, trivial, trivial⟩, trivial⟩, ⟨fok238, trivial, trivial⟩⟩⟩, ⟨fok62, ⟨fok94, ⟨fok158, ⟨fok286, trivial, trivial⟩, trivial⟩, ⟨fok222, trivial, trivial⟩⟩, ⟨fok126, ⟨fok190, ⟨trivial, trivial, trivial⟩, trivial⟩, ⟨fok254, trivial, trivial⟩⟩⟩⟩⟩⟩⟩⟩
noncomputable def env : Env := ⟨typesT, funcsT, [], 6⟩
theorem envOK : EnvOK Tryz.prog env := EnvOK.of_tables (n := 396) (by kernel_rfl) (by kernel_rfl) typesOK funcsOK (by kernel_rfl)
end Go.Proofs.YtogaadmkgamhpaaGreatDoor
