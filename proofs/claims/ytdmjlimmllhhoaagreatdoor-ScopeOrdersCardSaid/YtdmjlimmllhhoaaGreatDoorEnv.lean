/- The tables of the program for the evaluator, and that they are the program's. Printed by a program of this session. -/
import Derived.Test.YtdmjlimmllhhoaaGreatDoorEv4
import Derived.Test.YtdmjlimmllhhoaaGreatDoorProg
namespace Go.Proofs.YtdmjlimmllhhoaaGreatDoor
open Go Go.Ev
set_option maxRecDepth 100000
noncomputable def ti0 : TI := { desc := Tryz.t0.desc, size := 1, bytes := 0, agg := false, zero := some (.tup []), eqOk := false }
theorem tok0 : TyRow Tryz.prog 210 0 ti0 := ⟨by kernel_rfl, by kernel_rfl, by kernel_rfl⟩
noncomputable def ti1 : TI := { desc := Tryz.t1.desc, size := 1, bytes := 8, agg := false, zero := some .nilFunc, eqOk := false }
theorem tok1 : TyRow Tryz.prog 210 1 ti1 := ⟨by kernel_rfl, by kernel_rfl, by kernel_rfl⟩
noncomputable def ti2 : TI := { desc := Tryz.t2.desc, size := 1, bytes := 8, agg := false, zero := some (.int .i64 (0)), eqOk := true }
theorem tok2 : TyRow Tryz.prog 210 2 ti2 := ⟨by kernel_rfl, by kernel_rfl, by kernel_rfl⟩
noncomputable def ti3 : TI := { desc := Tryz.t3.desc, size := 1, bytes := 8, agg := false, zero := some (.int .i64 (0)), eqOk := true }
theorem tok3 : TyRow Tryz.prog 210 3 ti3 := ⟨by kernel_rfl, by kernel_rfl, by kernel_rfl⟩
noncomputable def ti4 : TI := { desc := Tryz.t4.desc, size := 1, bytes := 1, agg := false, zero := some (.bool false), eqOk := true }
theorem tok4 : TyRow Tryz.prog 210 4 ti4 := ⟨by kernel_rfl, by kernel_rfl, by kernel_rfl⟩
noncomputable def ti5 : TI := { desc := Tryz.t5.desc, size := 1, bytes := 1, agg := false, zero := some (.int .u8 (0)), eqOk := true }
theorem tok5 : TyRow Tryz.prog 210 5 ti5 := ⟨by kernel_rfl, by kernel_rfl, by kernel_rfl⟩
noncomputable def ti6 : TI := { desc := Tryz.t5.desc, size := 1, bytes := 1, agg := false, zero := some (.int .u8 (0)), eqOk := true }
theorem tok6 : TyRow Tryz.prog 210 6 ti6 := ⟨by kernel_rfl, by kernel_rfl, by kernel_rfl⟩
noncomputable def ti7 : TI := { desc := Tryz.t7.desc, size := 4, bytes := 24, agg := true, zero := some (.agg [(.int .i64 (0)), (.int .i64 (0)), (.bool false), (.int .u8 (0))]), eqOk := true }
theorem tok7 : TyRow Tryz.prog 210 7 ti7 := ⟨by kernel_rfl, by kernel_rfl, by kernel_rfl⟩
noncomputable def ti8 : TI := { desc := Tryz.t7.desc, size := 4, bytes := 24, agg := true, zero := some (.agg [(.int .i64 (0)), (.int .i64 (0)), (.bool false), (.int .u8 (0))]), eqOk := true }
theorem tok8 : TyRow Tryz.prog 210 8 ti8 := ⟨by kernel_rfl, by kernel_rfl, by kernel_rfl⟩
noncomputable def ti9 : TI := { desc := Tryz.t9.desc, size := 1, bytes := 16, agg := false, zero := some (.str []), eqOk := true }
theorem tok9 : TyRow Tryz.prog 210 9 ti9 := ⟨by kernel_rfl, by kernel_rfl, by kernel_rfl⟩
noncomputable def ti10 : TI := { desc := Tryz.t9.desc, size := 1, bytes := 16, agg := false, zero := some (.str []), eqOk := true }
theorem tok10 : TyRow Tryz.prog 210 10 ti10 := ⟨by kernel_rfl, by kernel_rfl, by kernel_rfl⟩
noncomputable def ti11 : TI := { desc := Tryz.t9.desc, size := 1, bytes := 16, agg := false, zero := some (.str []), eqOk := true }
theorem tok11 : TyRow Tryz.prog 210 11 ti11 := ⟨by kernel_rfl, by kernel_rfl, by kernel_rfl⟩
noncomputable def ti12 : TI := { desc := Tryz.t12.desc, size := 1, bytes := 8, agg := false, zero := some (.int .u64 (0)), eqOk := true }
theorem tok12 : TyRow Tryz.prog 210 12 ti12 := ⟨by kernel_rfl, by kernel_rfl, by kernel_rfl⟩
noncomputable def ti13 : TI := { desc := Tryz.t13.desc, size := 2, bytes := 24, agg := true, zero := some (.agg [(.str []), (.int .u64 (0))]), eqOk := false }
theorem tok13 : TyRow Tryz.prog 210 13 ti13 := ⟨by kernel_rfl, by kernel_rfl, by kernel_rfl⟩
noncomputable def ti14 : TI := { desc := Tryz.t13.desc, size := 2, bytes := 24, agg := true, zero := some (.agg [(.str []), (.int .u64 (0))]), eqOk := false }
theorem tok14 : TyRow Tryz.prog 210 14 ti14 := ⟨by kernel_rfl, by kernel_rfl, by kernel_rfl⟩
noncomputable def ti15 : TI := { desc := Tryz.t15.desc, size := 1, bytes := 8, agg := false, zero := some .pnil, eqOk := true }
theorem tok15 : TyRow Tryz.prog 210 15 ti15 := ⟨by kernel_rfl, by kernel_rfl, by kernel_rfl⟩
noncomputable def ti16 : TI := { desc := Tryz.t16.desc, size := 1, bytes := 8, agg := false, zero := some .pnil, eqOk := true }
theorem tok16 : TyRow Tryz.prog 210 16 ti16 := ⟨by kernel_rfl, by kernel_rfl, by kernel_rfl⟩
noncomputable def ti17 : TI := { desc := Tryz.t17.desc, size := 1, bytes := 8, agg := false, zero := some .pnil, eqOk := true }
theorem tok17 : TyRow Tryz.prog 210 17 ti17 := ⟨by kernel_rfl, by kernel_rfl, by kernel_rfl⟩
noncomputable def ti18 : TI := { desc := Tryz.t18.desc, size := 1, bytes := 8, agg := true, zero := some (.agg [.pnil]), eqOk := false }
theorem tok18 : TyRow Tryz.prog 210 18 ti18 := ⟨by kernel_rfl, by kernel_rfl, by kernel_rfl⟩
noncomputable def ti19 : TI := { desc := Tryz.t18.desc, size := 1, bytes := 8, agg := true, zero := some (.agg [.pnil]), eqOk := false }
theorem tok19 : TyRow Tryz.prog 210 19 ti19 := ⟨by kernel_rfl, by kernel_rfl, by kernel_rfl⟩
noncomputable def ti20 : TI := { desc := Tryz.t20.desc, size := 1, bytes := 16, agg := false, zero := some .nilIface, eqOk := true }
theorem tok20 : TyRow Tryz.prog 210 20 ti20 := ⟨by kernel_rfl, by kernel_rfl, by kernel_rfl⟩
noncomputable def ti21 : TI := { desc := Tryz.t21.desc, size := 1, bytes := 4, agg := false, zero := some (.int .i32 (0)), eqOk := true }
theorem tok21 : TyRow Tryz.prog 210 21 ti21 := ⟨by kernel_rfl, by kernel_rfl, by kernel_rfl⟩
noncomputable def ti22 : TI := { desc := Tryz.t22.desc, size := 1, bytes := 24, agg := false, zero := some .snil, eqOk := false }
theorem tok22 : TyRow Tryz.prog 210 22 ti22 := ⟨by kernel_rfl, by kernel_rfl, by kernel_rfl⟩
noncomputable def ti23 : TI := { desc := Tryz.t23.desc, size := 1, bytes := 8, agg := false, zero := some .nilFunc, eqOk := false }
theorem tok23 : TyRow Tryz.prog 210 23 ti23 := ⟨by kernel_rfl, by kernel_rfl, by kernel_rfl⟩
noncomputable def ti24 : TI := { desc := Tryz.t24.desc, size := 1, bytes := 8, agg := false, zero := some .nilFunc, eqOk := false }
theorem tok24 : TyRow Tryz.prog 210 24 ti24 := ⟨by kernel_rfl, by kernel_rfl, by kernel_rfl⟩
noncomputable def ti25 : TI := { desc := Tryz.t25.desc, size := 1, bytes := 24, agg := false, zero := some .snil, eqOk := false }
theorem tok25 : TyRow Tryz.prog 210 25 ti25 := ⟨by kernel_rfl, by kernel_rfl, by kernel_rfl⟩
noncomputable def ti26 : TI := { desc := Tryz.t3.desc, size := 1, bytes := 8, agg := false, zero := some (.int .i64 (0)), eqOk := true }
theorem tok26 : TyRow Tryz.prog 210 26 ti26 := ⟨by kernel_rfl, by kernel_rfl, by kernel_rfl⟩
noncomputable def ti27 : TI := { desc := Tryz.t27.desc, size := 1, bytes := 0, agg := false, zero := some (.tup [.snil, (.int .i64 (0)), (.int .i64 (0))]), eqOk := false }
theorem tok27 : TyRow Tryz.prog 210 27 ti27 := ⟨by kernel_rfl, by kernel_rfl, by kernel_rfl⟩
noncomputable def ti28 : TI := { desc := Tryz.t28.desc, size := 1, bytes := 8, agg := false, zero := some .nilFunc, eqOk := false }
theorem tok28 : TyRow Tryz.prog 210 28 ti28 := ⟨by kernel_rfl, by kernel_rfl, by kernel_rfl⟩
noncomputable def ti29 : TI := { desc := Tryz.t29.desc, size := 1, bytes := 24, agg := false, zero := some .snil, eqOk := false }
theorem tok29 : TyRow Tryz.prog 210 29 ti29 := ⟨by kernel_rfl, by kernel_rfl, by kernel_rfl⟩
noncomputable def ti30 : TI := { desc := Tryz.t30.desc, size := 1, bytes := 8, agg := false, zero := some .nilFunc, eqOk := false }
theorem tok30 : TyRow Tryz.prog 210 30 ti30 := ⟨by kernel_rfl, by kernel_rfl, by kernel_rfl⟩
noncomputable def ti31 : TI := { desc := Tryz.t31.desc, size := 1, bytes := 0, agg := false, zero := some (.tup [.snil, (.int .i64 (0)), (.int .i64 (0))]), eqOk := false }
theorem tok31 : TyRow Tryz.prog 210 31 ti31 := ⟨by kernel_rfl, by kernel_rfl, by kernel_rfl⟩
noncomputable def ti32 : TI := { desc := Tryz.t32.desc, size := 1, bytes := 8, agg := false, zero := some .nilFunc, eqOk := false }
theorem tok32 : TyRow Tryz.prog 210 32 ti32 := ⟨by kernel_rfl, by kernel_rfl, by kernel_rfl⟩
noncomputable def ti33 : TI := { desc := Tryz.t33.desc, size := 1, bytes := 8, agg := false, zero := some .nilFunc, eqOk := false }
theorem tok33 : TyRow Tryz.prog 210 33 ti33 := ⟨by kernel_rfl, by kernel_rfl, by kernel_rfl⟩
noncomputable def ti34 : TI := { desc := Tryz.t34.desc, size := 1, bytes := 24, agg := false, zero := some .snil, eqOk := false }
theorem tok34 : TyRow Tryz.prog 210 34 ti34 := ⟨by kernel_rfl, by kernel_rfl, by kernel_rfl⟩
noncomputable def ti35 : TI := { desc := Tryz.t35.desc, size := 1, bytes := 24, agg := false, zero := some .snil, eqOk := false }
theorem tok35 : TyRow Tryz.prog 210 35 ti35 := ⟨by kernel_rfl, by kernel_rfl, by kernel_rfl⟩
noncomputable def ti36 : TI := { desc := Tryz.t36.desc, size := 1, bytes := 24, agg := false, zero := some .snil, eqOk := false }
theorem tok36 : TyRow Tryz.prog 210 36 ti36 := ⟨by kernel_rfl, by kernel_rfl, by kernel_rfl⟩
noncomputable def ti37 : TI := { desc := Tryz.t37.desc, size := 3, bytes := 64, agg := true, zero := some (.agg [(.str []), .snil, .snil]), eqOk := false }
theorem tok37 : TyRow Tryz.prog 210 37 ti37 := ⟨by kernel_rfl, by kernel_rfl, by kernel_rfl⟩
noncomputable def ti38 : TI := { desc := Tryz.t37.desc, size := 3, bytes := 64, agg := true, zero := some (.agg [(.str []), .snil, .snil]), eqOk := false }
theorem tok38 : TyRow Tryz.prog 210 38 ti38 := ⟨by kernel_rfl, by kernel_rfl, by kernel_rfl⟩
noncomputable def ti39 : TI := { desc := Tryz.t39.desc, size := 1, bytes := 24, agg := false, zero := some .snil, eqOk := false }
theorem tok39 : TyRow Tryz.prog 210 39 ti39 := ⟨by kernel_rfl, by kernel_rfl, by kernel_rfl⟩
noncomputable def ti40 : TI := { desc := Tryz.t40.desc, size := 2, bytes := 32, agg := true, zero := some (.agg [.snil, (.int .i64 (0))]), eqOk := false }
theorem tok40 : TyRow Tryz.prog 210 40 ti40 := ⟨by kernel_rfl, by kernel_rfl, by kernel_rfl⟩
noncomputable def ti41 : TI := { desc := Tryz.t40.desc, size := 2, bytes := 32, agg := true, zero := some (.agg [.snil, (.int .i64 (0))]), eqOk := false }
theorem tok41 : TyRow Tryz.prog 210 41 ti41 := ⟨by kernel_rfl, by kernel_rfl, by kernel_rfl⟩
noncomputable def ti42 : TI := { desc := Tryz.t42.desc, size := 1, bytes := 0, agg := false, zero := none, eqOk := false }
theorem tok42 : TyRow Tryz.prog 210 42 ti42 := ⟨by kernel_rfl, by kernel_rfl, by kernel_rfl⟩
noncomputable def ti43 : TI := { desc := Tryz.t43.desc, size := 1, bytes := 8, agg := false, zero := some .nilFunc, eqOk := false }
theorem tok43 : TyRow Tryz.prog 210 43 ti43 := ⟨by kernel_rfl, by kernel_rfl, by kernel_rfl⟩
noncomputable def ti44 : TI := { desc := Tryz.t44.desc, size := 1, bytes := 24, agg := false, zero := some .snil, eqOk := false }
theorem tok44 : TyRow Tryz.prog 210 44 ti44 := ⟨by kernel_rfl, by kernel_rfl, by kernel_rfl⟩
noncomputable def ti45 : TI := { desc := Tryz.t45.desc, size := 3, bytes := 64, agg := true, zero := some (.agg [(.str []), .snil, .snil]), eqOk := false }
theorem tok45 : TyRow Tryz.prog 210 45 ti45 := ⟨by kernel_rfl, by kernel_rfl, by kernel_rfl⟩
noncomputable def ti46 : TI := { desc := Tryz.t45.desc, size := 3, bytes := 64, agg := true, zero := some (.agg [(.str []), .snil, .snil]), eqOk := false }
theorem tok46 : TyRow Tryz.prog 210 46 ti46 := ⟨by kernel_rfl, by kernel_rfl, by kernel_rfl⟩
noncomputable def ti47 : TI := { desc := Tryz.t47.desc, size := 1, bytes := 0, agg := false, zero := none, eqOk := false }
theorem tok47 : TyRow Tryz.prog 210 47 ti47 := ⟨by kernel_rfl, by kernel_rfl, by kernel_rfl⟩
noncomputable def ti48 : TI := { desc := Tryz.t48.desc, size := 1, bytes := 8, agg := false, zero := some .nilFunc, eqOk := false }
theorem tok48 : TyRow Tryz.prog 210 48 ti48 := ⟨by kernel_rfl, by kernel_rfl, by kernel_rfl⟩
noncomputable def ti49 : TI := { desc := Tryz.t49.desc, size := 5, bytes := 56, agg := true, zero := some (.agg [(.int .i64 (0)), (.str []), (.str []), (.int .i64 (0)), (.int .i64 (0))]), eqOk := true }
theorem tok49 : TyRow Tryz.prog 210 49 ti49 := ⟨by kernel_rfl, by kernel_rfl, by kernel_rfl⟩
noncomputable def ti50 : TI := { desc := Tryz.t49.desc, size := 5, bytes := 56, agg := true, zero := some (.agg [(.int .i64 (0)), (.str []), (.str []), (.int .i64 (0)), (.int .i64 (0))]), eqOk := true }
theorem tok50 : TyRow Tryz.prog 210 50 ti50 := ⟨by kernel_rfl, by kernel_rfl, by kernel_rfl⟩
noncomputable def ti51 : TI := { desc := Tryz.t51.desc, size := 2, bytes := 16, agg := true, zero := some (.agg [(.int .i64 (0)), (.int .i64 (0))]), eqOk := true }
theorem tok51 : TyRow Tryz.prog 210 51 ti51 := ⟨by kernel_rfl, by kernel_rfl, by kernel_rfl⟩
noncomputable def ti52 : TI := { desc := Tryz.t51.desc, size := 2, bytes := 16, agg := true, zero := some (.agg [(.int .i64 (0)), (.int .i64 (0))]), eqOk := true }
theorem tok52 : TyRow Tryz.prog 210 52 ti52 := ⟨by kernel_rfl, by kernel_rfl, by kernel_rfl⟩
noncomputable def ti53 : TI := { desc := Tryz.t53.desc, size := 6, bytes := 72, agg := true, zero := some (.agg [(.int .i64 (0)), (.str []), (.int .i64 (0)), .snil, (.int .i64 (0)), (.int .i64 (0))]), eqOk := false }
theorem tok53 : TyRow Tryz.prog 210 53 ti53 := ⟨by kernel_rfl, by kernel_rfl, by kernel_rfl⟩
noncomputable def ti54 : TI := { desc := Tryz.t53.desc, size := 6, bytes := 72, agg := true, zero := some (.agg [(.int .i64 (0)), (.str []), (.int .i64 (0)), .snil, (.int .i64 (0)), (.int .i64 (0))]), eqOk := false }
theorem tok54 : TyRow Tryz.prog 210 54 ti54 := ⟨by kernel_rfl, by kernel_rfl, by kernel_rfl⟩
noncomputable def ti55 : TI := { desc := Tryz.t55.desc, size := 1, bytes := 8, agg := false, zero := some .mnil, eqOk := false }
theorem tok55 : TyRow Tryz.prog 210 55 ti55 := ⟨by kernel_rfl, by kernel_rfl, by kernel_rfl⟩
noncomputable def ti56 : TI := { desc := Tryz.t55.desc, size := 1, bytes := 8, agg := false, zero := some .mnil, eqOk := false }
theorem tok56 : TyRow Tryz.prog 210 56 ti56 := ⟨by kernel_rfl, by kernel_rfl, by kernel_rfl⟩
noncomputable def ti57 : TI := { desc := Tryz.t57.desc, size := 1, bytes := 0, agg := false, zero := some (.tup [(.int .i64 (0)), (.bool false)]), eqOk := false }
theorem tok57 : TyRow Tryz.prog 210 57 ti57 := ⟨by kernel_rfl, by kernel_rfl, by kernel_rfl⟩
noncomputable def ti58 : TI := { desc := Tryz.t58.desc, size := 1, bytes := 8, agg := false, zero := some .nilFunc, eqOk := false }
theorem tok58 : TyRow Tryz.prog 210 58 ti58 := ⟨by kernel_rfl, by kernel_rfl, by kernel_rfl⟩
noncomputable def ti59 : TI := { desc := Tryz.t59.desc, size := 1, bytes := 8, agg := false, zero := some .nilFunc, eqOk := false }
theorem tok59 : TyRow Tryz.prog 210 59 ti59 := ⟨by kernel_rfl, by kernel_rfl, by kernel_rfl⟩
noncomputable def ti60 : TI := { desc := Tryz.t60.desc, size := 1, bytes := 8, agg := false, zero := some .nilFunc, eqOk := false }
theorem tok60 : TyRow Tryz.prog 210 60 ti60 := ⟨by kernel_rfl, by kernel_rfl, by kernel_rfl⟩
noncomputable def ti61 : TI := { desc := Tryz.t61.desc, size := 1, bytes := 8, agg := false, zero := some .nilFunc, eqOk := false }
theorem tok61 : TyRow Tryz.prog 210 61 ti61 := ⟨by kernel_rfl, by kernel_rfl, by kernel_rfl⟩
noncomputable def ti62 : TI := { desc := Tryz.t62.desc, size := 1, bytes := 8, agg := false, zero := some .nilFunc, eqOk := false }
theorem tok62 : TyRow Tryz.prog 210 62 ti62 := ⟨by kernel_rfl, by kernel_rfl, by kernel_rfl⟩
noncomputable def ti63 : TI := { desc := Tryz.t63.desc, size := 1, bytes := 8, agg := false, zero := some .nilFunc, eqOk := false }
theorem tok63 : TyRow Tryz.prog 210 63 ti63 := ⟨by kernel_rfl, by kernel_rfl, by kernel_rfl⟩
noncomputable def ti64 : TI := { desc := Tryz.t64.desc, size := 1, bytes := 8, agg := false, zero := some .nilFunc, eqOk := false }
theorem tok64 : TyRow Tryz.prog 210 64 ti64 := ⟨by kernel_rfl, by kernel_rfl, by kernel_rfl⟩
noncomputable def ti65 : TI := { desc := Tryz.t65.desc, size := 1, bytes := 8, agg := false, zero := some .nilFunc, eqOk := false }
theorem tok65 : TyRow Tryz.prog 210 65 ti65 := ⟨by kernel_rfl, by kernel_rfl, by kernel_rfl⟩
noncomputable def ti66 : TI := { desc := Tryz.t66.desc, size := 1, bytes := 8, agg := false, zero := some .nilFunc, eqOk := false }
theorem tok66 : TyRow Tryz.prog 210 66 ti66 := ⟨by kernel_rfl, by kernel_rfl, by kernel_rfl⟩
noncomputable def ti67 : TI := { desc := Tryz.t67.desc, size := 1, bytes := 8, agg := false, zero := some .nilFunc, eqOk := false }
theorem tok67 : TyRow Tryz.prog 210 67 ti67 := ⟨by kernel_rfl, by kernel_rfl, by kernel_rfl⟩
noncomputable def ti68 : TI := { desc := Tryz.t68.desc, size := 1, bytes := 8, agg := false, zero := some .nilFunc, eqOk := false }
theorem tok68 : TyRow Tryz.prog 210 68 ti68 := ⟨by kernel_rfl, by kernel_rfl, by kernel_rfl⟩
noncomputable def ti69 : TI := { desc := Tryz.t69.desc, size := 1, bytes := 8, agg := false, zero := some .nilFunc, eqOk := false }
theorem tok69 : TyRow Tryz.prog 210 69 ti69 := ⟨by kernel_rfl, by kernel_rfl, by kernel_rfl⟩
noncomputable def ti70 : TI := { desc := Tryz.t70.desc, size := 1, bytes := 8, agg := false, zero := some .pnil, eqOk := true }
theorem tok70 : TyRow Tryz.prog 210 70 ti70 := ⟨by kernel_rfl, by kernel_rfl, by kernel_rfl⟩
noncomputable def ti71 : TI := { desc := Tryz.t71.desc, size := 1, bytes := 8, agg := false, zero := some .nilFunc, eqOk := false }
theorem tok71 : TyRow Tryz.prog 210 71 ti71 := ⟨by kernel_rfl, by kernel_rfl, by kernel_rfl⟩
noncomputable def ti72 : TI := { desc := Tryz.t72.desc, size := 1, bytes := 8, agg := false, zero := some .pnil, eqOk := true }
theorem tok72 : TyRow Tryz.prog 210 72 ti72 := ⟨by kernel_rfl, by kernel_rfl, by kernel_rfl⟩
noncomputable def ti73 : TI := { desc := Tryz.t73.desc, size := 1, bytes := 8, agg := false, zero := some .mnil, eqOk := false }
theorem tok73 : TyRow Tryz.prog 210 73 ti73 := ⟨by kernel_rfl, by kernel_rfl, by kernel_rfl⟩
noncomputable def ti74 : TI := { desc := Tryz.t74.desc, size := 1, bytes := 8, agg := false, zero := some .pnil, eqOk := true }
theorem tok74 : TyRow Tryz.prog 210 74 ti74 := ⟨by kernel_rfl, by kernel_rfl, by kernel_rfl⟩
noncomputable def ti75 : TI := { desc := Tryz.t75.desc, size := 11, bytes := 144, agg := true, zero := some (.agg [.snil, (.int .i64 (0)), .mnil, .mnil, .mnil, .mnil, .mnil, (.str []), .snil, .snil, .pnil]), eqOk := false }
theorem tok75 : TyRow Tryz.prog 210 75 ti75 := ⟨by kernel_rfl, by kernel_rfl, by kernel_rfl⟩
noncomputable def ti76 : TI := { desc := Tryz.t75.desc, size := 11, bytes := 144, agg := true, zero := some (.agg [.snil, (.int .i64 (0)), .mnil, .mnil, .mnil, .mnil, .mnil, (.str []), .snil, .snil, .pnil]), eqOk := false }
theorem tok76 : TyRow Tryz.prog 210 76 ti76 := ⟨by kernel_rfl, by kernel_rfl, by kernel_rfl⟩
noncomputable def ti77 : TI := { desc := Tryz.t77.desc, size := 2, bytes := 16, agg := true, zero := some (.agg [(.int .i64 (0)), (.int .i64 (0))]), eqOk := true }
theorem tok77 : TyRow Tryz.prog 210 77 ti77 := ⟨by kernel_rfl, by kernel_rfl, by kernel_rfl⟩
noncomputable def ti78 : TI := { desc := Tryz.t77.desc, size := 2, bytes := 16, agg := true, zero := some (.agg [(.int .i64 (0)), (.int .i64 (0))]), eqOk := true }
theorem tok78 : TyRow Tryz.prog 210 78 ti78 := ⟨by kernel_rfl, by kernel_rfl, by kernel_rfl⟩
noncomputable def ti79 : TI := { desc := Tryz.t79.desc, size := 1, bytes := 8, agg := false, zero := some .nilFunc, eqOk := false }
theorem tok79 : TyRow Tryz.prog 210 79 ti79 := ⟨by kernel_rfl, by kernel_rfl, by kernel_rfl⟩
noncomputable def ti80 : TI := { desc := Tryz.t80.desc, size := 1, bytes := 8, agg := false, zero := some .nilFunc, eqOk := false }
theorem tok80 : TyRow Tryz.prog 210 80 ti80 := ⟨by kernel_rfl, by kernel_rfl, by kernel_rfl⟩
noncomputable def ti81 : TI := { desc := Tryz.t49.desc, size := 5, bytes := 56, agg := true, zero := some (.agg [(.int .i64 (0)), (.str []), (.str []), (.int .i64 (0)), (.int .i64 (0))]), eqOk := true }
theorem tok81 : TyRow Tryz.prog 210 81 ti81 := ⟨by kernel_rfl, by kernel_rfl, by kernel_rfl⟩
noncomputable def ti82 : TI := { desc := Tryz.t82.desc, size := 1, bytes := 8, agg := false, zero := some .nilFunc, eqOk := false }
theorem tok82 : TyRow Tryz.prog 210 82 ti82 := ⟨by kernel_rfl, by kernel_rfl, by kernel_rfl⟩
noncomputable def ti83 : TI := { desc := Tryz.t83.desc, size := 1, bytes := 24, agg := false, zero := some .snil, eqOk := false }
theorem tok83 : TyRow Tryz.prog 210 83 ti83 := ⟨by kernel_rfl, by kernel_rfl, by kernel_rfl⟩
noncomputable def ti84 : TI := { desc := Tryz.t84.desc, size := 1, bytes := 24, agg := false, zero := some .snil, eqOk := false }
theorem tok84 : TyRow Tryz.prog 210 84 ti84 := ⟨by kernel_rfl, by kernel_rfl, by kernel_rfl⟩
noncomputable def ti85 : TI := { desc := Tryz.t85.desc, size := 1, bytes := 0, agg := false, zero := some (.tup [.snil, .snil, (.int .i64 (0)), (.int .i64 (0))]), eqOk := false }
theorem tok85 : TyRow Tryz.prog 210 85 ti85 := ⟨by kernel_rfl, by kernel_rfl, by kernel_rfl⟩
noncomputable def ti86 : TI := { desc := Tryz.t86.desc, size := 1, bytes := 8, agg := false, zero := some .nilFunc, eqOk := false }
theorem tok86 : TyRow Tryz.prog 210 86 ti86 := ⟨by kernel_rfl, by kernel_rfl, by kernel_rfl⟩
noncomputable def ti87 : TI := { desc := Tryz.t87.desc, size := 1, bytes := 8, agg := true, zero := some (.agg [(.int .i64 (0))]), eqOk := true }
theorem tok87 : TyRow Tryz.prog 210 87 ti87 := ⟨by kernel_rfl, by kernel_rfl, by kernel_rfl⟩
noncomputable def ti88 : TI := { desc := Tryz.t87.desc, size := 1, bytes := 8, agg := true, zero := some (.agg [(.int .i64 (0))]), eqOk := true }
theorem tok88 : TyRow Tryz.prog 210 88 ti88 := ⟨by kernel_rfl, by kernel_rfl, by kernel_rfl⟩
noncomputable def ti89 : TI := { desc := Tryz.t89.desc, size := 1, bytes := 0, agg := false, zero := none, eqOk := false }
theorem tok89 : TyRow Tryz.prog 210 89 ti89 := ⟨by kernel_rfl, by kernel_rfl, by kernel_rfl⟩
noncomputable def ti90 : TI := { desc := Tryz.t90.desc, size := 2, bytes := 32, agg := true, zero := some (.agg [.snil, (.int .i64 (0))]), eqOk := false }
theorem tok90 : TyRow Tryz.prog 210 90 ti90 := ⟨by kernel_rfl, by kernel_rfl, by kernel_rfl⟩
noncomputable def ti91 : TI := { desc := Tryz.t90.desc, size := 2, bytes := 32, agg := true, zero := some (.agg [.snil, (.int .i64 (0))]), eqOk := false }
theorem tok91 : TyRow Tryz.prog 210 91 ti91 := ⟨by kernel_rfl, by kernel_rfl, by kernel_rfl⟩
noncomputable def ti92 : TI := { desc := Tryz.t92.desc, size := 1, bytes := 8, agg := false, zero := some .pnil, eqOk := true }
theorem tok92 : TyRow Tryz.prog 210 92 ti92 := ⟨by kernel_rfl, by kernel_rfl, by kernel_rfl⟩
noncomputable def ti93 : TI := { desc := Tryz.t93.desc, size := 4, bytes := 40, agg := true, zero := some (.agg [(.int .i64 (0)), (.str []), (.int .i64 (0)), (.int .i64 (0))]), eqOk := true }
theorem tok93 : TyRow Tryz.prog 210 93 ti93 := ⟨by kernel_rfl, by kernel_rfl, by kernel_rfl⟩
noncomputable def ti94 : TI := { desc := Tryz.t93.desc, size := 4, bytes := 40, agg := true, zero := some (.agg [(.int .i64 (0)), (.str []), (.int .i64 (0)), (.int .i64 (0))]), eqOk := true }
theorem tok94 : TyRow Tryz.prog 210 94 ti94 := ⟨by kernel_rfl, by kernel_rfl, by kernel_rfl⟩
noncomputable def ti95 : TI := { desc := Tryz.t95.desc, size := 1, bytes := 8, agg := false, zero := some .nilFunc, eqOk := false }
theorem tok95 : TyRow Tryz.prog 210 95 ti95 := ⟨by kernel_rfl, by kernel_rfl, by kernel_rfl⟩
noncomputable def ti96 : TI := { desc := Tryz.t96.desc, size := 1, bytes := 0, agg := false, zero := none, eqOk := false }
theorem tok96 : TyRow Tryz.prog 210 96 ti96 := ⟨by kernel_rfl, by kernel_rfl, by kernel_rfl⟩
noncomputable def ti97 : TI := { desc := Tryz.t97.desc, size := 1, bytes := 8, agg := false, zero := some .nilFunc, eqOk := false }
theorem tok97 : TyRow Tryz.prog 210 97 ti97 := ⟨by kernel_rfl, by kernel_rfl, by kernel_rfl⟩
noncomputable def ti98 : TI := { desc := Tryz.t98.desc, size := 1, bytes := 8, agg := false, zero := some .nilFunc, eqOk := false }
theorem tok98 : TyRow Tryz.prog 210 98 ti98 := ⟨by kernel_rfl, by kernel_rfl, by kernel_rfl⟩
noncomputable def ti99 : TI := { desc := Tryz.t99.desc, size := 1, bytes := 24, agg := false, zero := some .snil, eqOk := false }
theorem tok99 : TyRow Tryz.prog 210 99 ti99 := ⟨by kernel_rfl, by kernel_rfl, by kernel_rfl⟩
noncomputable def ti100 : TI := { desc := Tryz.t100.desc, size := 6, bytes := 72, agg := true, zero := some (.agg [(.int .i64 (0)), (.str []), (.int .i64 (0)), .snil, (.int .i64 (0)), (.int .i64 (0))]), eqOk := false }
theorem tok100 : TyRow Tryz.prog 210 100 ti100 := ⟨by kernel_rfl, by kernel_rfl, by kernel_rfl⟩
noncomputable def ti101 : TI := { desc := Tryz.t100.desc, size := 6, bytes := 72, agg := true, zero := some (.agg [(.int .i64 (0)), (.str []), (.int .i64 (0)), .snil, (.int .i64 (0)), (.int .i64 (0))]), eqOk := false }
theorem tok101 : TyRow Tryz.prog 210 101 ti101 := ⟨by kernel_rfl, by kernel_rfl, by kernel_rfl⟩
noncomputable def ti102 : TI := { desc := Tryz.t102.desc, size := 1, bytes := 8, agg := false, zero := some .nilFunc, eqOk := false }
theorem tok102 : TyRow Tryz.prog 210 102 ti102 := ⟨by kernel_rfl, by kernel_rfl, by kernel_rfl⟩
noncomputable def ti103 : TI := { desc := Tryz.t103.desc, size := 1, bytes := 8, agg := false, zero := some .nilFunc, eqOk := false }
theorem tok103 : TyRow Tryz.prog 210 103 ti103 := ⟨by kernel_rfl, by kernel_rfl, by kernel_rfl⟩
noncomputable def ti104 : TI := { desc := Tryz.t104.desc, size := 1, bytes := 8, agg := false, zero := some .nilFunc, eqOk := false }
theorem tok104 : TyRow Tryz.prog 210 104 ti104 := ⟨by kernel_rfl, by kernel_rfl, by kernel_rfl⟩
noncomputable def ti105 : TI := { desc := Tryz.t105.desc, size := 1, bytes := 8, agg := false, zero := some .nilFunc, eqOk := false }
theorem tok105 : TyRow Tryz.prog 210 105 ti105 := ⟨by kernel_rfl, by kernel_rfl, by kernel_rfl⟩
noncomputable def ti106 : TI := { desc := Tryz.t106.desc, size := 1, bytes := 8, agg := false, zero := some .nilFunc, eqOk := false }
theorem tok106 : TyRow Tryz.prog 210 106 ti106 := ⟨by kernel_rfl, by kernel_rfl, by kernel_rfl⟩
noncomputable def ti107 : TI := { desc := Tryz.t107.desc, size := 3, bytes := 32, agg := true, zero := some (.agg [(.str []), (.int .i64 (0)), .nilFunc]), eqOk := false }
theorem tok107 : TyRow Tryz.prog 210 107 ti107 := ⟨by kernel_rfl, by kernel_rfl, by kernel_rfl⟩
noncomputable def ti108 : TI := { desc := Tryz.t107.desc, size := 3, bytes := 32, agg := true, zero := some (.agg [(.str []), (.int .i64 (0)), .nilFunc]), eqOk := false }
theorem tok108 : TyRow Tryz.prog 210 108 ti108 := ⟨by kernel_rfl, by kernel_rfl, by kernel_rfl⟩
noncomputable def ti109 : TI := { desc := Tryz.t109.desc, size := 69, bytes := 736, agg := true, zero := some (.agg [(.str []), (.int .i64 (0)), .nilFunc, (.str []), (.int .i64 (0)), .nilFunc, (.str []), (.int .i64 (0)), .nilFunc, (.str []), (.int .i64 (0)), .nilFunc, (.str []), (.int .i64 (0)), .nilFunc, (.str []), (.int .i64 (0)), .nilFunc, (.str []), (.int .i64 (0)), .nilFunc, (.str []), (.int .i64 (0)), .nilFunc, (.str []), (.int .i64 (0)), .nilFunc, (.str []), (.int .i64 (0)), .nilFunc, (.str []), (.int .i64 (0)), .nilFunc, (.str []), (.int .i64 (0)), .nilFunc, (.str []), (.int .i64 (0)), .nilFunc, (.str []), (.int .i64 (0)), .nilFunc, (.str []), (.int .i64 (0)), .nilFunc, (.str []), (.int .i64 (0)), .nilFunc, (.str []), (.int .i64 (0)), .nilFunc, (.str []), (.int .i64 (0)), .nilFunc, (.str []), (.int .i64 (0)), .nilFunc, (.str []), (.int .i64 (0)), .nilFunc, (.str []), (.int .i64 (0)), .nilFunc, (.str []), (.int .i64 (0)), .nilFunc, (.str []), (.int .i64 (0)), .nilFunc]), eqOk := false }
theorem tok109 : TyRow Tryz.prog 210 109 ti109 := ⟨by kernel_rfl, by kernel_rfl, by kernel_rfl⟩
noncomputable def ti110 : TI := { desc := Tryz.t110.desc, size := 1, bytes := 8, agg := false, zero := some .nilFunc, eqOk := false }
theorem tok110 : TyRow Tryz.prog 210 110 ti110 := ⟨by kernel_rfl, by kernel_rfl, by kernel_rfl⟩
noncomputable def ti111 : TI := { desc := Tryz.t111.desc, size := 1, bytes := 8, agg := false, zero := some .nilFunc, eqOk := false }
theorem tok111 : TyRow Tryz.prog 210 111 ti111 := ⟨by kernel_rfl, by kernel_rfl, by kernel_rfl⟩
noncomputable def ti112 : TI := { desc := Tryz.t112.desc, size := 1, bytes := 8, agg := false, zero := some .pnil, eqOk := true }
theorem tok112 : TyRow Tryz.prog 210 112 ti112 := ⟨by kernel_rfl, by kernel_rfl, by kernel_rfl⟩
noncomputable def ti113 : TI := { desc := Tryz.t113.desc, size := 1, bytes := 8, agg := false, zero := some .nilFunc, eqOk := false }
theorem tok113 : TyRow Tryz.prog 210 113 ti113 := ⟨by kernel_rfl, by kernel_rfl, by kernel_rfl⟩
noncomputable def ti114 : TI := { desc := Tryz.t114.desc, size := 1, bytes := 8, agg := false, zero := some .nilFunc, eqOk := false }
theorem tok114 : TyRow Tryz.prog 210 114 ti114 := ⟨by kernel_rfl, by kernel_rfl, by kernel_rfl⟩
noncomputable def ti115 : TI := { desc := Tryz.t115.desc, size := 1, bytes := 8, agg := false, zero := some .nilFunc, eqOk := false }
theorem tok115 : TyRow Tryz.prog 210 115 ti115 := ⟨by kernel_rfl, by kernel_rfl, by kernel_rfl⟩
noncomputable def ti116 : TI := { desc := Tryz.t116.desc, size := 1, bytes := 8, agg := false, zero := some .nilFunc, eqOk := false }
theorem tok116 : TyRow Tryz.prog 210 116 ti116 := ⟨by kernel_rfl, by kernel_rfl, by kernel_rfl⟩
noncomputable def ti117 : TI := { desc := Tryz.t117.desc, size := 1, bytes := 8, agg := false, zero := some .nilFunc, eqOk := false }
theorem tok117 : TyRow Tryz.prog 210 117 ti117 := ⟨by kernel_rfl, by kernel_rfl, by kernel_rfl⟩
noncomputable def ti118 : TI := { desc := Tryz.t118.desc, size := 1, bytes := 8, agg := false, zero := some .nilFunc, eqOk := false }
theorem tok118 : TyRow Tryz.prog 210 118 ti118 := ⟨by kernel_rfl, by kernel_rfl, by kernel_rfl⟩
noncomputable def ti119 : TI := { desc := Tryz.t119.desc, size := 1, bytes := 8, agg := false, zero := some .nilFunc, eqOk := false }
theorem tok119 : TyRow Tryz.prog 210 119 ti119 := ⟨by kernel_rfl, by kernel_rfl, by kernel_rfl⟩
noncomputable def ti120 : TI := { desc := Tryz.t120.desc, size := 1, bytes := 8, agg := false, zero := some .nilFunc, eqOk := false }
theorem tok120 : TyRow Tryz.prog 210 120 ti120 := ⟨by kernel_rfl, by kernel_rfl, by kernel_rfl⟩
noncomputable def ti121 : TI := { desc := Tryz.t121.desc, size := 1, bytes := 8, agg := false, zero := some .nilFunc, eqOk := false }
theorem tok121 : TyRow Tryz.prog 210 121 ti121 := ⟨by kernel_rfl, by kernel_rfl, by kernel_rfl⟩
noncomputable def ti122 : TI := { desc := Tryz.t122.desc, size := 1, bytes := 8, agg := false, zero := some .nilFunc, eqOk := false }
theorem tok122 : TyRow Tryz.prog 210 122 ti122 := ⟨by kernel_rfl, by kernel_rfl, by kernel_rfl⟩
noncomputable def ti123 : TI := { desc := Tryz.t123.desc, size := 1, bytes := 8, agg := false, zero := some .nilFunc, eqOk := false }
theorem tok123 : TyRow Tryz.prog 210 123 ti123 := ⟨by kernel_rfl, by kernel_rfl, by kernel_rfl⟩
noncomputable def ti124 : TI := { desc := Tryz.t124.desc, size := 1, bytes := 8, agg := false, zero := some .nilFunc, eqOk := false }
theorem tok124 : TyRow Tryz.prog 210 124 ti124 := ⟨by kernel_rfl, by kernel_rfl, by kernel_rfl⟩
noncomputable def ti125 : TI := { desc := Tryz.t124.desc, size := 1, bytes := 8, agg := false, zero := some .nilFunc, eqOk := false }
theorem tok125 : TyRow Tryz.prog 210 125 ti125 := ⟨by kernel_rfl, by kernel_rfl, by kernel_rfl⟩
noncomputable def ti126 : TI := { desc := Tryz.t126.desc, size := 1, bytes := 8, agg := false, zero := some .nilFunc, eqOk := false }
theorem tok126 : TyRow Tryz.prog 210 126 ti126 := ⟨by kernel_rfl, by kernel_rfl, by kernel_rfl⟩
noncomputable def ti127 : TI := { desc := Tryz.t127.desc, size := 1, bytes := 8, agg := false, zero := some .nilFunc, eqOk := false }
theorem tok127 : TyRow Tryz.prog 210 127 ti127 := ⟨by kernel_rfl, by kernel_rfl, by kernel_rfl⟩
noncomputable def ti128 : TI := { desc := Tryz.t128.desc, size := 256, bytes := 256, agg := true, zero := some (.agg [(.bool false), (.bool false), (.bool false), (.bool false), (.bool false), (.bool false), (.bool false), (.bool false), (.bool false), (.bool false), (.bool false), (.bool false), (.bool false), (.bool false), (.bool false), (.bool false), (.bool false), (.bool false), (.bool false), (.bool false), (.bool false), (.bool false), (.bool false), (.bool false), (.bool false), (.bool false), (.bool false), (.bool false), (.bool false), (.bool false), (.bool false), (.bool false), (.bool false), (.bool false), (.bool false), (.bool false), (.bool false), (.bool false), (.bool false), (.bool false), (.bool false), (.bool false), (.bool false), (.bool false), (.bool false), (.bool false), (.bool false), (.bool false), (.bool false), (.bool false), (.bool false), (.bool false), (.bool false), (.bool false), (.bool false), (.bool false), (.bool false), (.bool false), (.bool false), (.bool false), (.bool false), (.bool false), (.bool false), (.bool false), (.bool false), (.bool false), (.bool false), (.bool false), (.bool false), (.bool false), (.bool false), (.bool false), (.bool false), (.bool false), (.bool false), (.bool false), (.bool false), (.bool false), (.bool false), (.bool false), (.bool false), (.bool false), (.bool false), (.bool false), (.bool false), (.bool false), (.bool false), (.bool false), (.bool false), (.bool false), (.bool false), (.bool false), (.bool false), (.bool false), (.bool false), (.bool false), (.bool false), (.bool false), (.bool false), (.bool false), (.bool false), (.bool false), (.bool false), (.bool false), (.bool false), (.bool false), (.bool false), (.bool false), (.bool false), (.bool false), (.bool false), (.bool false), (.bool false), (.bool false), (.bool false), (.bool false), (.bool false), (.bool false), (.bool false), (.bool false), (.bool false), (.bool false), (.bool false), (.bool false), (.bool false), (.bool false), (.bool false), (.bool false), (.bool false), (.bool false), (.bool false), (.bool false), (.bool false), (.bool false), (.bool false), (.bool false), (.bool false), (.bool false), (.bool false), (.bool false), (.bool false), (.bool false), (.bool false), (.bool false), (.bool false), (.bool false), (.bool false), (.bool false), (.bool false), (.bool false), (.bool false), (.bool false), (.bool false), (.bool false), (.bool false), (.bool false), (.bool false), (.bool false), (.bool false), (.bool false), (.bool false), (.bool false), (.bool false), (.bool false), (.bool false), (.bool false), (.bool false), (.bool false), (.bool false), (.bool false), (.bool false), (.bool false), (.bool false), (.bool false), (.bool false), (.bool false), (.bool false), (.bool false), (.bool false), (.bool false), (.bool false), (.bool false), (.bool false), (.bool false), (.bool false), (.bool false), (.bool false), (.bool false), (.bool false), (.bool false), (.bool false), (.bool false), (.bool false), (.bool false), (.bool false), (.bool false), (.bool false), (.bool false), (.bool false), (.bool false), (.bool false), (.bool false), (.bool false), (.bool false), (.bool false), (.bool false), (.bool false), (.bool false), (.bool false), (.bool false), (.bool false), (.bool false), (.bool false), (.bool false), (.bool false), (.bool false), (.bool false), (.bool false), (.bool false), (.bool false), (.bool false), (.bool false), (.bool false), (.bool false), (.bool false), (.bool false), (.bool false), (.bool false), (.bool false), (.bool false), (.bool false), (.bool false), (.bool false), (.bool false), (.bool false), (.bool false), (.bool false), (.bool false), (.bool false), (.bool false), (.bool false), (.bool false), (.bool false), (.bool false), (.bool false), (.bool false), (.bool false), (.bool false), (.bool false), (.bool false), (.bool false), (.bool false), (.bool false), (.bool false), (.bool false), (.bool false)]), eqOk := true }
theorem tok128 : TyRow Tryz.prog 210 128 ti128 := ⟨by kernel_rfl, by kernel_rfl, by kernel_rfl⟩
noncomputable def ti129 : TI := { desc := Tryz.t129.desc, size := 1, bytes := 8, agg := false, zero := some .nilFunc, eqOk := false }
theorem tok129 : TyRow Tryz.prog 210 129 ti129 := ⟨by kernel_rfl, by kernel_rfl, by kernel_rfl⟩
noncomputable def ti130 : TI := { desc := Tryz.t130.desc, size := 1, bytes := 8, agg := false, zero := some .nilFunc, eqOk := false }
theorem tok130 : TyRow Tryz.prog 210 130 ti130 := ⟨by kernel_rfl, by kernel_rfl, by kernel_rfl⟩
noncomputable def ti131 : TI := { desc := Tryz.t131.desc, size := 1, bytes := 8, agg := false, zero := some .nilFunc, eqOk := false }
theorem tok131 : TyRow Tryz.prog 210 131 ti131 := ⟨by kernel_rfl, by kernel_rfl, by kernel_rfl⟩
noncomputable def ti132 : TI := { desc := Tryz.t132.desc, size := 1, bytes := 0, agg := false, zero := none, eqOk := false }
theorem tok132 : TyRow Tryz.prog 210 132 ti132 := ⟨by kernel_rfl, by kernel_rfl, by kernel_rfl⟩
noncomputable def ti133 : TI := { desc := Tryz.t133.desc, size := 1, bytes := 8, agg := false, zero := some .nilFunc, eqOk := false }
theorem tok133 : TyRow Tryz.prog 210 133 ti133 := ⟨by kernel_rfl, by kernel_rfl, by kernel_rfl⟩
noncomputable def ti134 : TI := { desc := Tryz.t134.desc, size := 1, bytes := 8, agg := false, zero := some .nilFunc, eqOk := false }
theorem tok134 : TyRow Tryz.prog 210 134 ti134 := ⟨by kernel_rfl, by kernel_rfl, by kernel_rfl⟩
noncomputable def ti135 : TI := { desc := Tryz.t135.desc, size := 1, bytes := 16, agg := false, zero := some .nilIface, eqOk := true }
theorem tok135 : TyRow Tryz.prog 210 135 ti135 := ⟨by kernel_rfl, by kernel_rfl, by kernel_rfl⟩
noncomputable def ti136 : TI := { desc := Tryz.t135.desc, size := 1, bytes := 16, agg := false, zero := some .nilIface, eqOk := true }
theorem tok136 : TyRow Tryz.prog 210 136 ti136 := ⟨by kernel_rfl, by kernel_rfl, by kernel_rfl⟩
noncomputable def ti137 : TI := { desc := Tryz.t137.desc, size := 1, bytes := 0, agg := false, zero := some (.tup [(.int .i64 (0)), .nilIface]), eqOk := false }
theorem tok137 : TyRow Tryz.prog 210 137 ti137 := ⟨by kernel_rfl, by kernel_rfl, by kernel_rfl⟩
noncomputable def ti138 : TI := { desc := Tryz.t138.desc, size := 1, bytes := 8, agg := false, zero := some .nilFunc, eqOk := false }
theorem tok138 : TyRow Tryz.prog 210 138 ti138 := ⟨by kernel_rfl, by kernel_rfl, by kernel_rfl⟩
noncomputable def ti139 : TI := { desc := Tryz.t139.desc, size := 1, bytes := 8, agg := false, zero := some .nilFunc, eqOk := false }
theorem tok139 : TyRow Tryz.prog 210 139 ti139 := ⟨by kernel_rfl, by kernel_rfl, by kernel_rfl⟩
noncomputable def ti140 : TI := { desc := Tryz.t140.desc, size := 1, bytes := 8, agg := false, zero := some .nilFunc, eqOk := false }
theorem tok140 : TyRow Tryz.prog 210 140 ti140 := ⟨by kernel_rfl, by kernel_rfl, by kernel_rfl⟩
noncomputable def ti141 : TI := { desc := Tryz.t141.desc, size := 1, bytes := 8, agg := false, zero := some .nilFunc, eqOk := false }
theorem tok141 : TyRow Tryz.prog 210 141 ti141 := ⟨by kernel_rfl, by kernel_rfl, by kernel_rfl⟩
noncomputable def ti142 : TI := { desc := Tryz.t142.desc, size := 3, bytes := 24, agg := true, zero := some (.agg [.pnil, (.int .i64 (0)), (.int .i64 (0))]), eqOk := true }
theorem tok142 : TyRow Tryz.prog 210 142 ti142 := ⟨by kernel_rfl, by kernel_rfl, by kernel_rfl⟩
noncomputable def ti143 : TI := { desc := Tryz.t142.desc, size := 3, bytes := 24, agg := true, zero := some (.agg [.pnil, (.int .i64 (0)), (.int .i64 (0))]), eqOk := true }
theorem tok143 : TyRow Tryz.prog 210 143 ti143 := ⟨by kernel_rfl, by kernel_rfl, by kernel_rfl⟩
noncomputable def ti144 : TI := { desc := Tryz.t144.desc, size := 1, bytes := 8, agg := false, zero := some .nilFunc, eqOk := false }
theorem tok144 : TyRow Tryz.prog 210 144 ti144 := ⟨by kernel_rfl, by kernel_rfl, by kernel_rfl⟩
noncomputable def ti145 : TI := { desc := Tryz.t145.desc, size := 1, bytes := 8, agg := false, zero := some .nilFunc, eqOk := false }
theorem tok145 : TyRow Tryz.prog 210 145 ti145 := ⟨by kernel_rfl, by kernel_rfl, by kernel_rfl⟩
noncomputable def ti146 : TI := { desc := Tryz.t146.desc, size := 1, bytes := 8, agg := false, zero := some .nilFunc, eqOk := false }
theorem tok146 : TyRow Tryz.prog 210 146 ti146 := ⟨by kernel_rfl, by kernel_rfl, by kernel_rfl⟩
noncomputable def ti147 : TI := { desc := Tryz.t147.desc, size := 1, bytes := 8, agg := false, zero := some .nilFunc, eqOk := false }
theorem tok147 : TyRow Tryz.prog 210 147 ti147 := ⟨by kernel_rfl, by kernel_rfl, by kernel_rfl⟩
noncomputable def ti148 : TI := { desc := Tryz.t148.desc, size := 1, bytes := 8, agg := false, zero := some .nilFunc, eqOk := false }
theorem tok148 : TyRow Tryz.prog 210 148 ti148 := ⟨by kernel_rfl, by kernel_rfl, by kernel_rfl⟩
noncomputable def ti149 : TI := { desc := Tryz.t149.desc, size := 1, bytes := 8, agg := false, zero := some .nilFunc, eqOk := false }
theorem tok149 : TyRow Tryz.prog 210 149 ti149 := ⟨by kernel_rfl, by kernel_rfl, by kernel_rfl⟩
noncomputable def ti150 : TI := { desc := Tryz.t150.desc, size := 1, bytes := 8, agg := false, zero := some .nilFunc, eqOk := false }
theorem tok150 : TyRow Tryz.prog 210 150 ti150 := ⟨by kernel_rfl, by kernel_rfl, by kernel_rfl⟩
noncomputable def ti151 : TI := { desc := Tryz.t151.desc, size := 1, bytes := 8, agg := false, zero := some .nilFunc, eqOk := false }
theorem tok151 : TyRow Tryz.prog 210 151 ti151 := ⟨by kernel_rfl, by kernel_rfl, by kernel_rfl⟩
noncomputable def ti152 : TI := { desc := Tryz.t152.desc, size := 1, bytes := 8, agg := false, zero := some .nilFunc, eqOk := false }
theorem tok152 : TyRow Tryz.prog 210 152 ti152 := ⟨by kernel_rfl, by kernel_rfl, by kernel_rfl⟩
noncomputable def ti153 : TI := { desc := Tryz.t153.desc, size := 1, bytes := 8, agg := false, zero := some .nilFunc, eqOk := false }
theorem tok153 : TyRow Tryz.prog 210 153 ti153 := ⟨by kernel_rfl, by kernel_rfl, by kernel_rfl⟩
noncomputable def ti154 : TI := { desc := Tryz.t154.desc, size := 1, bytes := 8, agg := false, zero := some .nilFunc, eqOk := false }
theorem tok154 : TyRow Tryz.prog 210 154 ti154 := ⟨by kernel_rfl, by kernel_rfl, by kernel_rfl⟩
noncomputable def ti155 : TI := { desc := Tryz.t155.desc, size := 1, bytes := 8, agg := false, zero := some .nilFunc, eqOk := false }
theorem tok155 : TyRow Tryz.prog 210 155 ti155 := ⟨by kernel_rfl, by kernel_rfl, by kernel_rfl⟩
noncomputable def ti156 : TI := { desc := Tryz.t3.desc, size := 1, bytes := 8, agg := false, zero := some (.int .i64 (0)), eqOk := true }
theorem tok156 : TyRow Tryz.prog 210 156 ti156 := ⟨by kernel_rfl, by kernel_rfl, by kernel_rfl⟩
noncomputable def ti157 : TI := { desc := Tryz.t157.desc, size := 1, bytes := 8, agg := false, zero := some (.int .u64 (0)), eqOk := true }
theorem tok157 : TyRow Tryz.prog 210 157 ti157 := ⟨by kernel_rfl, by kernel_rfl, by kernel_rfl⟩
noncomputable def ti158 : TI := { desc := Tryz.t158.desc, size := 1, bytes := 0, agg := false, zero := some (.tup [(.int .u64 (0)), .nilIface]), eqOk := false }
theorem tok158 : TyRow Tryz.prog 210 158 ti158 := ⟨by kernel_rfl, by kernel_rfl, by kernel_rfl⟩
noncomputable def ti159 : TI := { desc := Tryz.t159.desc, size := 1, bytes := 8, agg := false, zero := some .nilFunc, eqOk := false }
theorem tok159 : TyRow Tryz.prog 210 159 ti159 := ⟨by kernel_rfl, by kernel_rfl, by kernel_rfl⟩
noncomputable def ti160 : TI := { desc := Tryz.t160.desc, size := 1, bytes := 8, agg := false, zero := some (.int .u64 (0)), eqOk := true }
theorem tok160 : TyRow Tryz.prog 210 160 ti160 := ⟨by kernel_rfl, by kernel_rfl, by kernel_rfl⟩
noncomputable def ti161 : TI := { desc := Tryz.t161.desc, size := 1, bytes := 8, agg := false, zero := some .pnil, eqOk := true }
theorem tok161 : TyRow Tryz.prog 210 161 ti161 := ⟨by kernel_rfl, by kernel_rfl, by kernel_rfl⟩
noncomputable def ti162 : TI := { desc := Tryz.t162.desc, size := 1, bytes := 8, agg := false, zero := some .nilFunc, eqOk := false }
theorem tok162 : TyRow Tryz.prog 210 162 ti162 := ⟨by kernel_rfl, by kernel_rfl, by kernel_rfl⟩
noncomputable def ti163 : TI := { desc := Tryz.t163.desc, size := 1, bytes := 8, agg := false, zero := some .nilFunc, eqOk := false }
theorem tok163 : TyRow Tryz.prog 210 163 ti163 := ⟨by kernel_rfl, by kernel_rfl, by kernel_rfl⟩
noncomputable def ti164 : TI := { desc := Tryz.t164.desc, size := 1, bytes := 8, agg := false, zero := some .nilFunc, eqOk := false }
theorem tok164 : TyRow Tryz.prog 210 164 ti164 := ⟨by kernel_rfl, by kernel_rfl, by kernel_rfl⟩
noncomputable def ti165 : TI := { desc := Tryz.t165.desc, size := 1, bytes := 8, agg := false, zero := some .nilFunc, eqOk := false }
theorem tok165 : TyRow Tryz.prog 210 165 ti165 := ⟨by kernel_rfl, by kernel_rfl, by kernel_rfl⟩
noncomputable def ti166 : TI := { desc := Tryz.t166.desc, size := 1, bytes := 8, agg := false, zero := some .nilFunc, eqOk := false }
theorem tok166 : TyRow Tryz.prog 210 166 ti166 := ⟨by kernel_rfl, by kernel_rfl, by kernel_rfl⟩
noncomputable def ti167 : TI := { desc := Tryz.t167.desc, size := 1, bytes := 24, agg := false, zero := some .snil, eqOk := false }
theorem tok167 : TyRow Tryz.prog 210 167 ti167 := ⟨by kernel_rfl, by kernel_rfl, by kernel_rfl⟩
noncomputable def ti168 : TI := { desc := Tryz.t168.desc, size := 1, bytes := 8, agg := false, zero := some .nilFunc, eqOk := false }
theorem tok168 : TyRow Tryz.prog 210 168 ti168 := ⟨by kernel_rfl, by kernel_rfl, by kernel_rfl⟩
noncomputable def ti169 : TI := { desc := Tryz.t169.desc, size := 3, bytes := 48, agg := true, zero := some (.agg [(.str []), (.str []), .nilIface]), eqOk := false }
theorem tok169 : TyRow Tryz.prog 210 169 ti169 := ⟨by kernel_rfl, by kernel_rfl, by kernel_rfl⟩
noncomputable def ti170 : TI := { desc := Tryz.t169.desc, size := 3, bytes := 48, agg := true, zero := some (.agg [(.str []), (.str []), .nilIface]), eqOk := false }
theorem tok170 : TyRow Tryz.prog 210 170 ti170 := ⟨by kernel_rfl, by kernel_rfl, by kernel_rfl⟩
noncomputable def ti171 : TI := { desc := Tryz.t171.desc, size := 1, bytes := 8, agg := false, zero := some .nilFunc, eqOk := false }
theorem tok171 : TyRow Tryz.prog 210 171 ti171 := ⟨by kernel_rfl, by kernel_rfl, by kernel_rfl⟩
noncomputable def ti172 : TI := { desc := Tryz.t172.desc, size := 1, bytes := 8, agg := false, zero := some .nilFunc, eqOk := false }
theorem tok172 : TyRow Tryz.prog 210 172 ti172 := ⟨by kernel_rfl, by kernel_rfl, by kernel_rfl⟩
noncomputable def ti173 : TI := { desc := Tryz.t173.desc, size := 1, bytes := 8, agg := false, zero := some .mnil, eqOk := false }
theorem tok173 : TyRow Tryz.prog 210 173 ti173 := ⟨by kernel_rfl, by kernel_rfl, by kernel_rfl⟩
noncomputable def ti174 : TI := { desc := Tryz.t174.desc, size := 1, bytes := 8, agg := false, zero := some .nilFunc, eqOk := false }
theorem tok174 : TyRow Tryz.prog 210 174 ti174 := ⟨by kernel_rfl, by kernel_rfl, by kernel_rfl⟩
noncomputable def ti175 : TI := { desc := Tryz.t175.desc, size := 1, bytes := 8, agg := false, zero := some .nilFunc, eqOk := false }
theorem tok175 : TyRow Tryz.prog 210 175 ti175 := ⟨by kernel_rfl, by kernel_rfl, by kernel_rfl⟩
noncomputable def ti176 : TI := { desc := Tryz.t176.desc, size := 1, bytes := 8, agg := false, zero := some .pnil, eqOk := true }
theorem tok176 : TyRow Tryz.prog 210 176 ti176 := ⟨by kernel_rfl, by kernel_rfl, by kernel_rfl⟩
noncomputable def ti177 : TI := { desc := Tryz.t177.desc, size := 1, bytes := 8, agg := false, zero := some .pnil, eqOk := true }
theorem tok177 : TyRow Tryz.prog 210 177 ti177 := ⟨by kernel_rfl, by kernel_rfl, by kernel_rfl⟩
noncomputable def ti178 : TI := { desc := Tryz.t178.desc, size := 1, bytes := 16, agg := true, zero := some (.agg [(.str [])]), eqOk := true }
theorem tok178 : TyRow Tryz.prog 210 178 ti178 := ⟨by kernel_rfl, by kernel_rfl, by kernel_rfl⟩
noncomputable def ti179 : TI := { desc := Tryz.t178.desc, size := 1, bytes := 16, agg := true, zero := some (.agg [(.str [])]), eqOk := true }
theorem tok179 : TyRow Tryz.prog 210 179 ti179 := ⟨by kernel_rfl, by kernel_rfl, by kernel_rfl⟩
noncomputable def ti180 : TI := { desc := Tryz.t180.desc, size := 1, bytes := 8, agg := false, zero := some .nilFunc, eqOk := false }
theorem tok180 : TyRow Tryz.prog 210 180 ti180 := ⟨by kernel_rfl, by kernel_rfl, by kernel_rfl⟩
noncomputable def ti181 : TI := { desc := Tryz.t181.desc, size := 1, bytes := 8, agg := false, zero := some .nilFunc, eqOk := false }
theorem tok181 : TyRow Tryz.prog 210 181 ti181 := ⟨by kernel_rfl, by kernel_rfl, by kernel_rfl⟩
noncomputable def ti182 : TI := { desc := Tryz.t182.desc, size := 24, bytes := 24, agg := true, zero := some (.agg [(.int .u8 (0)), (.int .u8 (0)), (.int .u8 (0)), (.int .u8 (0)), (.int .u8 (0)), (.int .u8 (0)), (.int .u8 (0)), (.int .u8 (0)), (.int .u8 (0)), (.int .u8 (0)), (.int .u8 (0)), (.int .u8 (0)), (.int .u8 (0)), (.int .u8 (0)), (.int .u8 (0)), (.int .u8 (0)), (.int .u8 (0)), (.int .u8 (0)), (.int .u8 (0)), (.int .u8 (0)), (.int .u8 (0)), (.int .u8 (0)), (.int .u8 (0)), (.int .u8 (0))]), eqOk := true }
theorem tok182 : TyRow Tryz.prog 210 182 ti182 := ⟨by kernel_rfl, by kernel_rfl, by kernel_rfl⟩
noncomputable def ti183 : TI := { desc := Tryz.t183.desc, size := 1, bytes := 8, agg := false, zero := some .nilFunc, eqOk := false }
theorem tok183 : TyRow Tryz.prog 210 183 ti183 := ⟨by kernel_rfl, by kernel_rfl, by kernel_rfl⟩
noncomputable def ti184 : TI := { desc := Tryz.t184.desc, size := 1, bytes := 8, agg := false, zero := some .nilFunc, eqOk := false }
theorem tok184 : TyRow Tryz.prog 210 184 ti184 := ⟨by kernel_rfl, by kernel_rfl, by kernel_rfl⟩
noncomputable def ti185 : TI := { desc := Tryz.t185.desc, size := 1, bytes := 0, agg := false, zero := some (.tup [.snil, (.str [])]), eqOk := false }
theorem tok185 : TyRow Tryz.prog 210 185 ti185 := ⟨by kernel_rfl, by kernel_rfl, by kernel_rfl⟩
noncomputable def ti186 : TI := { desc := Tryz.t186.desc, size := 1, bytes := 8, agg := false, zero := some .nilFunc, eqOk := false }
theorem tok186 : TyRow Tryz.prog 210 186 ti186 := ⟨by kernel_rfl, by kernel_rfl, by kernel_rfl⟩
noncomputable def ti187 : TI := { desc := Tryz.t187.desc, size := 1, bytes := 8, agg := false, zero := some .nilFunc, eqOk := false }
theorem tok187 : TyRow Tryz.prog 210 187 ti187 := ⟨by kernel_rfl, by kernel_rfl, by kernel_rfl⟩
noncomputable def ti188 : TI := { desc := Tryz.t188.desc, size := 1, bytes := 8, agg := false, zero := some .nilFunc, eqOk := false }
theorem tok188 : TyRow Tryz.prog 210 188 ti188 := ⟨by kernel_rfl, by kernel_rfl, by kernel_rfl⟩
noncomputable def ti189 : TI := { desc := Tryz.t189.desc, size := 20, bytes := 160, agg := true, zero := some (.agg [(.int .u64 (0)), (.int .u64 (0)), (.int .u64 (0)), (.int .u64 (0)), (.int .u64 (0)), (.int .u64 (0)), (.int .u64 (0)), (.int .u64 (0)), (.int .u64 (0)), (.int .u64 (0)), (.int .u64 (0)), (.int .u64 (0)), (.int .u64 (0)), (.int .u64 (0)), (.int .u64 (0)), (.int .u64 (0)), (.int .u64 (0)), (.int .u64 (0)), (.int .u64 (0)), (.int .u64 (0))]), eqOk := true }
theorem tok189 : TyRow Tryz.prog 210 189 ti189 := ⟨by kernel_rfl, by kernel_rfl, by kernel_rfl⟩
noncomputable def ti190 : TI := { desc := Tryz.t190.desc, size := 1, bytes := 4, agg := false, zero := some (.int .u32 (0)), eqOk := true }
theorem tok190 : TyRow Tryz.prog 210 190 ti190 := ⟨by kernel_rfl, by kernel_rfl, by kernel_rfl⟩
noncomputable def ti191 : TI := { desc := Tryz.t191.desc, size := 65, bytes := 65, agg := true, zero := some (.agg [(.int .u8 (0)), (.int .u8 (0)), (.int .u8 (0)), (.int .u8 (0)), (.int .u8 (0)), (.int .u8 (0)), (.int .u8 (0)), (.int .u8 (0)), (.int .u8 (0)), (.int .u8 (0)), (.int .u8 (0)), (.int .u8 (0)), (.int .u8 (0)), (.int .u8 (0)), (.int .u8 (0)), (.int .u8 (0)), (.int .u8 (0)), (.int .u8 (0)), (.int .u8 (0)), (.int .u8 (0)), (.int .u8 (0)), (.int .u8 (0)), (.int .u8 (0)), (.int .u8 (0)), (.int .u8 (0)), (.int .u8 (0)), (.int .u8 (0)), (.int .u8 (0)), (.int .u8 (0)), (.int .u8 (0)), (.int .u8 (0)), (.int .u8 (0)), (.int .u8 (0)), (.int .u8 (0)), (.int .u8 (0)), (.int .u8 (0)), (.int .u8 (0)), (.int .u8 (0)), (.int .u8 (0)), (.int .u8 (0)), (.int .u8 (0)), (.int .u8 (0)), (.int .u8 (0)), (.int .u8 (0)), (.int .u8 (0)), (.int .u8 (0)), (.int .u8 (0)), (.int .u8 (0)), (.int .u8 (0)), (.int .u8 (0)), (.int .u8 (0)), (.int .u8 (0)), (.int .u8 (0)), (.int .u8 (0)), (.int .u8 (0)), (.int .u8 (0)), (.int .u8 (0)), (.int .u8 (0)), (.int .u8 (0)), (.int .u8 (0)), (.int .u8 (0)), (.int .u8 (0)), (.int .u8 (0)), (.int .u8 (0)), (.int .u8 (0))]), eqOk := true }
theorem tok191 : TyRow Tryz.prog 210 191 ti191 := ⟨by kernel_rfl, by kernel_rfl, by kernel_rfl⟩
noncomputable def ti192 : TI := { desc := Tryz.t192.desc, size := 1, bytes := 8, agg := false, zero := some .nilFunc, eqOk := false }
theorem tok192 : TyRow Tryz.prog 210 192 ti192 := ⟨by kernel_rfl, by kernel_rfl, by kernel_rfl⟩
noncomputable def ti193 : TI := { desc := Tryz.t193.desc, size := 1, bytes := 8, agg := false, zero := some .nilFunc, eqOk := false }
theorem tok193 : TyRow Tryz.prog 210 193 ti193 := ⟨by kernel_rfl, by kernel_rfl, by kernel_rfl⟩
noncomputable def ti194 : TI := { desc := Tryz.t194.desc, size := 32, bytes := 32, agg := true, zero := some (.agg [(.int .u8 (0)), (.int .u8 (0)), (.int .u8 (0)), (.int .u8 (0)), (.int .u8 (0)), (.int .u8 (0)), (.int .u8 (0)), (.int .u8 (0)), (.int .u8 (0)), (.int .u8 (0)), (.int .u8 (0)), (.int .u8 (0)), (.int .u8 (0)), (.int .u8 (0)), (.int .u8 (0)), (.int .u8 (0)), (.int .u8 (0)), (.int .u8 (0)), (.int .u8 (0)), (.int .u8 (0)), (.int .u8 (0)), (.int .u8 (0)), (.int .u8 (0)), (.int .u8 (0)), (.int .u8 (0)), (.int .u8 (0)), (.int .u8 (0)), (.int .u8 (0)), (.int .u8 (0)), (.int .u8 (0)), (.int .u8 (0)), (.int .u8 (0))]), eqOk := true }
theorem tok194 : TyRow Tryz.prog 210 194 ti194 := ⟨by kernel_rfl, by kernel_rfl, by kernel_rfl⟩
noncomputable def ti195 : TI := { desc := Tryz.t195.desc, size := 64, bytes := 64, agg := true, zero := some (.agg [(.int .u8 (0)), (.int .u8 (0)), (.int .u8 (0)), (.int .u8 (0)), (.int .u8 (0)), (.int .u8 (0)), (.int .u8 (0)), (.int .u8 (0)), (.int .u8 (0)), (.int .u8 (0)), (.int .u8 (0)), (.int .u8 (0)), (.int .u8 (0)), (.int .u8 (0)), (.int .u8 (0)), (.int .u8 (0)), (.int .u8 (0)), (.int .u8 (0)), (.int .u8 (0)), (.int .u8 (0)), (.int .u8 (0)), (.int .u8 (0)), (.int .u8 (0)), (.int .u8 (0)), (.int .u8 (0)), (.int .u8 (0)), (.int .u8 (0)), (.int .u8 (0)), (.int .u8 (0)), (.int .u8 (0)), (.int .u8 (0)), (.int .u8 (0)), (.int .u8 (0)), (.int .u8 (0)), (.int .u8 (0)), (.int .u8 (0)), (.int .u8 (0)), (.int .u8 (0)), (.int .u8 (0)), (.int .u8 (0)), (.int .u8 (0)), (.int .u8 (0)), (.int .u8 (0)), (.int .u8 (0)), (.int .u8 (0)), (.int .u8 (0)), (.int .u8 (0)), (.int .u8 (0)), (.int .u8 (0)), (.int .u8 (0)), (.int .u8 (0)), (.int .u8 (0)), (.int .u8 (0)), (.int .u8 (0)), (.int .u8 (0)), (.int .u8 (0)), (.int .u8 (0)), (.int .u8 (0)), (.int .u8 (0)), (.int .u8 (0)), (.int .u8 (0)), (.int .u8 (0)), (.int .u8 (0)), (.int .u8 (0))]), eqOk := true }
theorem tok195 : TyRow Tryz.prog 210 195 ti195 := ⟨by kernel_rfl, by kernel_rfl, by kernel_rfl⟩
noncomputable def ti196 : TI := { desc := Tryz.t196.desc, size := 1, bytes := 8, agg := false, zero := some .nilFunc, eqOk := false }
theorem tok196 : TyRow Tryz.prog 210 196 ti196 := ⟨by kernel_rfl, by kernel_rfl, by kernel_rfl⟩
noncomputable def ti197 : TI := { desc := Tryz.t197.desc, size := 4, bytes := 40, agg := true, zero := some (.agg [.pnil, .pnil, .pnil, (.str [])]), eqOk := false }
theorem tok197 : TyRow Tryz.prog 210 197 ti197 := ⟨by kernel_rfl, by kernel_rfl, by kernel_rfl⟩
noncomputable def ti198 : TI := { desc := Tryz.t197.desc, size := 4, bytes := 40, agg := true, zero := some (.agg [.pnil, .pnil, .pnil, (.str [])]), eqOk := false }
theorem tok198 : TyRow Tryz.prog 210 198 ti198 := ⟨by kernel_rfl, by kernel_rfl, by kernel_rfl⟩
noncomputable def ti199 : TI := { desc := Tryz.t199.desc, size := 0, bytes := 0, agg := true, zero := some (.agg []), eqOk := true }
theorem tok199 : TyRow Tryz.prog 210 199 ti199 := ⟨by kernel_rfl, by kernel_rfl, by kernel_rfl⟩
noncomputable def ti200 : TI := { desc := Tryz.t200.desc, size := 0, bytes := 0, agg := true, zero := some (.agg []), eqOk := false }
theorem tok200 : TyRow Tryz.prog 210 200 ti200 := ⟨by kernel_rfl, by kernel_rfl, by kernel_rfl⟩
noncomputable def ti201 : TI := { desc := Tryz.t200.desc, size := 0, bytes := 0, agg := true, zero := some (.agg []), eqOk := false }
theorem tok201 : TyRow Tryz.prog 210 201 ti201 := ⟨by kernel_rfl, by kernel_rfl, by kernel_rfl⟩
noncomputable def ti202 : TI := { desc := Tryz.t5.desc, size := 1, bytes := 1, agg := false, zero := some (.int .u8 (0)), eqOk := true }
theorem tok202 : TyRow Tryz.prog 210 202 ti202 := ⟨by kernel_rfl, by kernel_rfl, by kernel_rfl⟩
noncomputable def ti203 : TI := { desc := Tryz.t5.desc, size := 1, bytes := 1, agg := false, zero := some (.int .u8 (0)), eqOk := true }
theorem tok203 : TyRow Tryz.prog 210 203 ti203 := ⟨by kernel_rfl, by kernel_rfl, by kernel_rfl⟩
noncomputable def ti204 : TI := { desc := Tryz.t204.desc, size := 1, bytes := 8, agg := false, zero := some .nilFunc, eqOk := false }
theorem tok204 : TyRow Tryz.prog 210 204 ti204 := ⟨by kernel_rfl, by kernel_rfl, by kernel_rfl⟩
noncomputable def ti205 : TI := { desc := Tryz.t21.desc, size := 1, bytes := 4, agg := false, zero := some (.int .i32 (0)), eqOk := true }
theorem tok205 : TyRow Tryz.prog 210 205 ti205 := ⟨by kernel_rfl, by kernel_rfl, by kernel_rfl⟩
noncomputable def ti206 : TI := { desc := Tryz.t21.desc, size := 1, bytes := 4, agg := false, zero := some (.int .i32 (0)), eqOk := true }
theorem tok206 : TyRow Tryz.prog 210 206 ti206 := ⟨by kernel_rfl, by kernel_rfl, by kernel_rfl⟩
noncomputable def ti207 : TI := { desc := Tryz.t207.desc, size := 11, bytes := 48, agg := true, zero := some (.agg [(.int .u64 (0)), (.int .u64 (0)), (.int .u32 (0)), (.int .u8 (0)), (.int .u8 (0)), (.int .u8 (0)), (.int .u8 (0)), .nilFunc, .pnil, (.int .i32 (0)), (.int .i32 (0))]), eqOk := false }
theorem tok207 : TyRow Tryz.prog 210 207 ti207 := ⟨by kernel_rfl, by kernel_rfl, by kernel_rfl⟩
noncomputable def ti208 : TI := { desc := Tryz.t207.desc, size := 11, bytes := 48, agg := true, zero := some (.agg [(.int .u64 (0)), (.int .u64 (0)), (.int .u32 (0)), (.int .u8 (0)), (.int .u8 (0)), (.int .u8 (0)), (.int .u8 (0)), .nilFunc, .pnil, (.int .i32 (0)), (.int .i32 (0))]), eqOk := false }
theorem tok208 : TyRow Tryz.prog 210 208 ti208 := ⟨by kernel_rfl, by kernel_rfl, by kernel_rfl⟩
noncomputable def ti209 : TI := { desc := Tryz.t209.desc, size := 1, bytes := 8, agg := false, zero := some .pnil, eqOk := true }
theorem tok209 : TyRow Tryz.prog 210 209 ti209 := ⟨by kernel_rfl, by kernel_rfl, by kernel_rfl⟩
noncomputable def typesT : T TI := (.node (some ti0) (.node (some ti1) (.node (some ti3) (.node (some ti7) (.node (some ti15) (.node (some ti31) (.node (some ti63) (.node (some ti127) .nil .nil) (.node (some ti191) .nil .nil)) (.node (some ti95) (.node (some ti159) .nil .nil) .nil)) (.node (some ti47) (.node (some ti79) (.node (some ti143) .nil .nil) (.node (some ti207) .nil .nil)) (.node (some ti111) (.node (some ti175) .nil .nil) .nil))) (.node (some ti23) (.node (some ti39) (.node (some ti71) (.node (some ti135) .nil .nil) (.node (some ti199) .nil .nil)) (.node (some ti103) (.node (some ti167) .nil .nil) .nil)) (.node (some ti55) (.node (some ti87) (.node (some ti151) .nil .nil) .nil) (.node (some ti119) (.node (some ti183) .nil .nil) .nil)))) (.node (some ti11) (.node (some ti19) (.node (some ti35) (.node (some ti67) (.node (some ti131) .nil .nil) (.node (some ti195) .nil .nil)) (.node (some ti99) (.node (some ti163) .nil .nil) .nil)) (.node (some ti51) (.node (some ti83) (.node (some ti147) .nil .nil) .nil) (.node (some ti115) (.node (some ti179) .nil .nil) .nil))) (.node (some ti27) (.node (some ti43) (.node (some ti75) (.node (some ti139) .nil .nil) (.node (some ti203) .nil .nil)) (.node (some ti107) (.node (some ti171) .nil .nil) .nil)) (.node (some ti59) (.node (some ti91) (.node (some ti155) .nil .nil) .nil) (.node (some ti123) (.node (some ti187) .nil .nil) .nil))))) (.node (some ti5) (.node (some ti9) (.node (some ti17) (.node (some ti33) (.node (some ti65) (.node (some ti129) .nil .nil) (.node (some ti193) .nil .nil)) (.node (some ti97) (.node (some ti161) .nil .nil) .nil)) (.node (some ti49) (.node (some ti81) (.node (some ti145) .nil .nil) (.node (some ti209) .nil .nil)) (.node (some ti113) (.node (some ti177) .nil .nil) .nil))) (.node (some ti25) (.node (some ti41) (.node (some ti73) (.node (some ti137) .nil .nil) (.node (some ti201) .nil .nil)) (.node (some ti105) (.node (some ti169) .nil .nil) .nil)) (.node (some ti57) (.node (some ti89) (.node (some ti153) .nil .nil) .nil) (.node (some ti121) (.node (some ti185) .nil .nil) .nil)))) (.node (some ti13) (.node (some ti21) (.node (some ti37) (.node (some ti69) (.node (some ti133) .nil .nil) (.node (some ti197) .nil .nil)) (.node (some ti101) (.node (some ti165) .nil .nil) .nil)) (.node (some ti53) (.node (some ti85) (.node (some ti149) .nil .nil) .nil) (.node (some ti117) (.node (some ti181) .nil .nil) .nil))) (.node (some ti29) (.node (some ti45) (.node (some ti77) (.node (some ti141) .nil .nil) (.node (some ti205) .nil .nil)) (.node (some ti109) (.node (some ti173) .nil .nil) .nil)) (.node (some ti61) (.node (some ti93) (.node (some ti157) .nil .nil) .nil) (.node (some ti125) (.node (some ti189) .nil .nil) .nil)))))) (.node (some ti2) (.node (some ti4) (.node (some ti8) (.node (some ti16) (.node (some ti32) (.node (some ti64) (.node (some ti128) .nil .nil) (.node (some ti192) .nil .nil)) (.node (some ti96) (.node (some ti160) .nil .nil) .nil)) (.node (some ti48) (.node (some ti80) (.node (some ti144) .nil .nil) (.node (some ti208) .nil .nil)) (.node (some ti112) (.node (some ti176) .nil .nil) .nil))) (.node (some ti24) (.node (some ti40) (.node (some ti72) (.node (some ti136) .nil .nil) (.node (some ti200) .nil .nil)) (.node (some ti104) (.node (some ti168) .nil .nil) .nil)) (.node (some ti56) (.node (some ti88) (.node (some ti152) .nil .nil) .nil) (.node (some ti120) (.node (some ti184) .nil .nil) .nil)))) (.node (some ti12) (.node (some ti20) (.node (some ti36) (.node (some ti68) (.node (some ti132) .nil .nil) (.node (some ti196) .nil .nil)) (.node (some ti100) (.node (some ti164) .nil .nil) .nil)) (.node (some ti52) (.node (some ti84) (.node (some ti148) .nil .nil) .nil) (.node (some ti116) (.node (some ti180) .nil .nil) .nil))) (.node (some ti28) (.node (some ti44) (.node (some ti76) (.node (some ti140) .nil .nil) (.node (some ti204) .nil .nil)) (.node (some ti108) (.node (some ti172) .nil .nil) .nil)) (.node (some ti60) (.node (some ti92) (.node (some ti156) .nil .nil) .nil) (.node (some ti124) (.node (some ti188) .nil .nil) .nil))))) (.node (some ti6) (.node (some ti10) (.node (some ti18) (.node (some ti34) (.node (some ti66) (.node (some ti130) .nil .nil) (.node (some ti194) .nil .nil)) (.node (some ti98) (.node (some ti162) .nil .nil) .nil)) (.node (some ti50) (.node (some ti82) (.node (some ti146) .nil .nil) .nil) (.node (some ti114) (.node (some ti178) .nil .nil) .nil))) (.node (some ti26) (.node (some ti42) (.node (some ti74) (.node (some ti138) .nil .nil) (.node (some ti202) .nil .nil)) (.node (some ti106) (.node (some ti170) .nil .nil) .nil)) (.node (some ti58) (.node (some ti90) (.node (some ti154) .nil .nil) .nil) (.node (some ti122) (.node (some ti186) .nil .nil) .nil)))) (.node (some ti14) (.node (some ti22) (.node (some ti38) (.node (some ti70) (.node (some ti134) .nil .nil) (.node (some ti198) .nil .nil)) (.node (some ti102) (.node (some ti166) .nil .nil) .nil)) (.node (some ti54) (.node (some ti86) (.node (some ti150) .nil .nil) .nil) (.node (some ti118) (.node (some ti182) .nil .nil) .nil))) (.node (some ti30) (.node (some ti46) (.node (some ti78) (.node (some ti142) .nil .nil) (.node (some ti206) .nil .nil)) (.node (some ti110) (.node (some ti174) .nil .nil) .nil)) (.node (some ti62) (.node (some ti94) (.node (some ti158) .nil .nil) .nil) (.node (some ti126) (.node (some ti190) .nil .nil) .nil)))))))
noncomputable def funcsT : T AFn := (.node none (.node none (.node (some ⟨Tryz.f3, none⟩) (.node (some ⟨Tryz.f7, none⟩) (.node (some ⟨Tryz.f15, none⟩) (.node (some ⟨Tryz.f31, none⟩) (.node (some ⟨Tryz.f63, none⟩) (.node (some ⟨Tryz.f127, none⟩) .nil .nil) .nil) (.node (some ⟨Tryz.f95, none⟩) (.node none .nil .nil) .nil)) (.node (some ⟨Tryz.f47, none⟩) (.node (some ⟨Tryz.f79, none⟩) (.node none .nil .nil) .nil) (.node (some ⟨Tryz.f111, none⟩) .nil .nil))) (.node (some ⟨Tryz.f23, none⟩) (.node (some ⟨Tryz.f39, none⟩) (.node (some ⟨Tryz.f71, none⟩) (.node (some ⟨Tryz.f135, none⟩) .nil .nil) .nil) (.node (some ⟨Tryz.f103, none⟩) .nil .nil)) (.node (some ⟨Tryz.f55, none⟩) (.node (some ⟨Tryz.f87, none⟩) (.node none .nil .nil) .nil) (.node (some ⟨Tryz.f119, none⟩) .nil .nil)))) (.node (some ⟨Tryz.f11, none⟩) (.node (some ⟨Tryz.f19, none⟩) (.node (some ⟨Tryz.f35, none⟩) (.node (some ⟨Tryz.f67, none⟩) (.node (some ⟨Tryz.f131, none⟩) .nil .nil) .nil) (.node (some ⟨Tryz.f99, none⟩) (.node none .nil .nil) .nil)) (.node (some ⟨Tryz.f51, none⟩) (.node (some ⟨Tryz.f83, none⟩) (.node none .nil .nil) .nil) (.node (some ⟨Tryz.f115, none⟩) .nil .nil))) (.node (some ⟨Tryz.f27, none⟩) (.node (some ⟨Tryz.f43, none⟩) (.node (some ⟨Tryz.f75, none⟩) (.node none .nil .nil) .nil) (.node (some ⟨Tryz.f107, none⟩) .nil .nil)) (.node (some ⟨Tryz.f59, none⟩) (.node (some ⟨Tryz.f91, none⟩) (.node none .nil .nil) .nil) (.node (some ⟨Tryz.f123, none⟩) .nil .nil))))) (.node (some ⟨Tryz.f5, none⟩) (.node (some ⟨Tryz.f9, none⟩) (.node (some ⟨Tryz.f17, none⟩) (.node (some ⟨Tryz.f33, none⟩) (.node (some ⟨Tryz.f65, none⟩) (.node (some ⟨Tryz.f129, none⟩) .nil .nil) .nil) (.node (some ⟨Tryz.f97, none⟩) (.node none .nil .nil) .nil)) (.node (some ⟨Tryz.f49, none⟩) (.node (some ⟨Tryz.f81, none⟩) (.node none .nil .nil) .nil) (.node (some ⟨Tryz.f113, none⟩) .nil .nil))) (.node (some ⟨Tryz.f25, none⟩) (.node (some ⟨Tryz.f41, none⟩) (.node (some ⟨Tryz.f73, none⟩) (.node (some ⟨Tryz.f137, none⟩) .nil .nil) .nil) (.node (some ⟨Tryz.f105, none⟩) .nil .nil)) (.node (some ⟨Tryz.f57, none⟩) (.node (some ⟨Tryz.f89, none⟩) (.node none .nil .nil) .nil) (.node (some ⟨Tryz.f121, none⟩) .nil .nil)))) (.node (some ⟨Tryz.f13, none⟩) (.node (some ⟨Tryz.f21, none⟩) (.node (some ⟨Tryz.f37, none⟩) (.node (some ⟨Tryz.f69, none⟩) (.node (some ⟨Tryz.f133, none⟩) .nil .nil) .nil) (.node (some ⟨Tryz.f101, none⟩) (.node (some ⟨Tryz.f165, none⟩) .nil .nil) .nil)) (.node (some ⟨Tryz.f53, none⟩) (.node (some ⟨Tryz.f85, none⟩) (.node none .nil .nil) .nil) (.node (some ⟨Tryz.f117, none⟩) .nil .nil))) (.node (some ⟨Tryz.f29, none⟩) (.node (some ⟨Tryz.f45, none⟩) (.node (some ⟨Tryz.f77, none⟩) (.node none .nil .nil) .nil) (.node (some ⟨Tryz.f109, none⟩) .nil .nil)) (.node (some ⟨Tryz.f61, none⟩) (.node (some ⟨Tryz.f93, none⟩) (.node none .nil .nil) .nil) (.node (some ⟨Tryz.f125, none⟩) .nil .nil)))))) (.node (some ⟨Tryz.f2, none⟩) (.node (some ⟨Tryz.f4, none⟩) (.node (some ⟨Tryz.f8, none⟩) (.node (some ⟨Tryz.f16, none⟩) (.node (some ⟨Tryz.f32, none⟩) (.node (some ⟨Tryz.f64, none⟩) (.node (some ⟨Tryz.f128, none⟩) .nil .nil) .nil) (.node (some ⟨Tryz.f96, none⟩) (.node none .nil .nil) .nil)) (.node (some ⟨Tryz.f48, none⟩) (.node (some ⟨Tryz.f80, none⟩) (.node none .nil .nil) .nil) (.node (some ⟨Tryz.f112, none⟩) .nil .nil))) (.node (some ⟨Tryz.f24, none⟩) (.node (some ⟨Tryz.f40, none⟩) (.node (some ⟨Tryz.f72, none⟩) (.node (some ⟨Tryz.f136, none⟩) .nil .nil) .nil) (.node (some ⟨Tryz.f104, none⟩) .nil .nil)) (.node (some ⟨Tryz.f56, none⟩) (.node (some ⟨Tryz.f88, none⟩) (.node none .nil .nil) .nil) (.node (some ⟨Tryz.f120, none⟩) .nil .nil)))) (.node (some ⟨Tryz.f12, none⟩) (.node (some ⟨Tryz.f20, none⟩) (.node (some ⟨Tryz.f36, none⟩) (.node (some ⟨Tryz.f68, none⟩) (.node (some ⟨Tryz.f132, none⟩) .nil .nil) .nil) (.node (some ⟨Tryz.f100, none⟩) (.node none .nil .nil) .nil)) (.node (some ⟨Tryz.f52, none⟩) (.node (some ⟨Tryz.f84, none⟩) (.node none .nil .nil) .nil) (.node (some ⟨Tryz.f116, none⟩) .nil .nil))) (.node (some ⟨Tryz.f28, none⟩) (.node (some ⟨Tryz.f44, none⟩) (.node (some ⟨Tryz.f76, none⟩) (.node none .nil .nil) .nil) (.node (some ⟨Tryz.f108, none⟩) .nil .nil)) (.node (some ⟨Tryz.f60, none⟩) (.node (some ⟨Tryz.f92, none⟩) (.node none .nil .nil) .nil) (.node (some ⟨Tryz.f124, none⟩) .nil .nil))))) (.node (some ⟨Tryz.f6, none⟩) (.node (some ⟨Tryz.f10, none⟩) (.node (some ⟨Tryz.f18, none⟩) (.node (some ⟨Tryz.f34, none⟩) (.node (some ⟨Tryz.f66, none⟩) (.node (some ⟨Tryz.f130, none⟩) .nil .nil) .nil) (.node (some ⟨Tryz.f98, none⟩) (.node none .nil .nil) .nil)) (.node (some ⟨Tryz.f50, none⟩) (.node (some ⟨Tryz.f82, none⟩) (.node none .nil .nil) .nil) (.node (some ⟨Tryz.f114, none⟩) .nil .nil))) (.node (some ⟨Tryz.f26, none⟩) (.node (some ⟨Tryz.f42, none⟩) (.node (some ⟨Tryz.f74, none⟩) (.node (some ⟨Tryz.f138, none⟩) .nil .nil) .nil) (.node (some ⟨Tryz.f106, none⟩) .nil .nil)) (.node (some ⟨Tryz.f58, none⟩) (.node (some ⟨Tryz.f90, none⟩) (.node none .nil .nil) .nil) (.node (some ⟨Tryz.f122, none⟩) .nil .nil)))) (.node (some ⟨Tryz.f14, none⟩) (.node (some ⟨Tryz.f22, none⟩) (.node (some ⟨Tryz.f38, none⟩) (.node (some ⟨Tryz.f70, none⟩) (.node (some ⟨Tryz.f134, none⟩) .nil .nil) .nil) (.node (some ⟨Tryz.f102, some .indexByte⟩) .nil .nil)) (.node (some ⟨Tryz.f54, none⟩) (.node (some ⟨Tryz.f86, none⟩) (.node none .nil .nil) .nil) (.node (some ⟨Tryz.f118, none⟩) .nil .nil))) (.node (some ⟨Tryz.f30, none⟩) (.node (some ⟨Tryz.f46, none⟩) (.node (some ⟨Tryz.f78, none⟩) (.node none .nil .nil) .nil) (.node (some ⟨Tryz.f110, none⟩) .nil .nil)) (.node (some ⟨Tryz.f62, none⟩) (.node (some ⟨Tryz.f94, none⟩) (.node none .nil .nil) .nil) (.node (some ⟨Tryz.f126, none⟩) .nil .nil)))))))
theorem fok2 : FnRow Tryz.prog 2 ⟨Tryz.f2, none⟩ := .mk0 Tryz.func2 (by kernel_rfl) (by kernel_rfl)
theorem fok3 : FnRow Tryz.prog 3 ⟨Tryz.f3, none⟩ := .mk0 Tryz.func3 (by kernel_rfl) (by kernel_rfl)
theorem fok4 : FnRow Tryz.prog 4 ⟨Tryz.f4, none⟩ := .mk0 Tryz.func4 (by kernel_rfl) (by kernel_rfl)
theorem fok5 : FnRow Tryz.prog 5 ⟨Tryz.f5, none⟩ := .mk0 Tryz.func5 (by kernel_rfl) (by kernel_rfl)
theorem fok6 : FnRow Tryz.prog 6 ⟨Tryz.f6, none⟩ := .mk0 Tryz.func6 (by kernel_rfl) (by kernel_rfl)
theorem fok7 : FnRow Tryz.prog 7 ⟨Tryz.f7, none⟩ := .mk0 Tryz.func7 (by kernel_rfl) (by kernel_rfl)
theorem fok8 : FnRow Tryz.prog 8 ⟨Tryz.f8, none⟩ := .mk0 Tryz.func8 (by kernel_rfl) (by kernel_rfl)
theorem fok9 : FnRow Tryz.prog 9 ⟨Tryz.f9, none⟩ := .mk0 Tryz.func9 (by kernel_rfl) (by kernel_rfl)
theorem fok10 : FnRow Tryz.prog 10 ⟨Tryz.f10, none⟩ := .mk0 Tryz.func10 (by kernel_rfl) (by kernel_rfl)
theorem fok11 : FnRow Tryz.prog 11 ⟨Tryz.f11, none⟩ := .mk0 Tryz.func11 (by kernel_rfl) (by kernel_rfl)
theorem fok12 : FnRow Tryz.prog 12 ⟨Tryz.f12, none⟩ := .mk0 Tryz.func12 (by kernel_rfl) (by kernel_rfl)
theorem fok13 : FnRow Tryz.prog 13 ⟨Tryz.f13, none⟩ := .mk0 Tryz.func13 (by kernel_rfl) (by kernel_rfl)
theorem fok14 : FnRow Tryz.prog 14 ⟨Tryz.f14, none⟩ := .mk0 Tryz.func14 (by kernel_rfl) (by kernel_rfl)
theorem fok15 : FnRow Tryz.prog 15 ⟨Tryz.f15, none⟩ := .mk0 Tryz.func15 (by kernel_rfl) (by kernel_rfl)
theorem fok16 : FnRow Tryz.prog 16 ⟨Tryz.f16, none⟩ := .mk0 Tryz.func16 (by kernel_rfl) (by kernel_rfl)
theorem fok17 : FnRow Tryz.prog 17 ⟨Tryz.f17, none⟩ := .mk0 Tryz.func17 (by kernel_rfl) (by kernel_rfl)
theorem fok18 : FnRow Tryz.prog 18 ⟨Tryz.f18, none⟩ := .mk0 Tryz.func18 (by kernel_rfl) (by kernel_rfl)
theorem fok19 : FnRow Tryz.prog 19 ⟨Tryz.f19, none⟩ := .mk0 Tryz.func19 (by kernel_rfl) (by kernel_rfl)
theorem fok20 : FnRow Tryz.prog 20 ⟨Tryz.f20, none⟩ := .mk0 Tryz.func20 (by kernel_rfl) (by kernel_rfl)
theorem fok21 : FnRow Tryz.prog 21 ⟨Tryz.f21, none⟩ := .mk0 Tryz.func21 (by kernel_rfl) (by kernel_rfl)
theorem fok22 : FnRow Tryz.prog 22 ⟨Tryz.f22, none⟩ := .mk0 Tryz.func22 (by kernel_rfl) (by kernel_rfl)
theorem fok23 : FnRow Tryz.prog 23 ⟨Tryz.f23, none⟩ := .mk0 Tryz.func23 (by kernel_rfl) (by kernel_rfl)
theorem fok24 : FnRow Tryz.prog 24 ⟨Tryz.f24, none⟩ := .mk0 Tryz.func24 (by kernel_rfl) (by kernel_rfl)
theorem fok25 : FnRow Tryz.prog 25 ⟨Tryz.f25, none⟩ := .mk0 Tryz.func25 (by kernel_rfl) (by kernel_rfl)
theorem fok26 : FnRow Tryz.prog 26 ⟨Tryz.f26, none⟩ := .mk0 Tryz.func26 (by kernel_rfl) (by kernel_rfl)
theorem fok27 : FnRow Tryz.prog 27 ⟨Tryz.f27, none⟩ := .mk0 Tryz.func27 (by kernel_rfl) (by kernel_rfl)
theorem fok28 : FnRow Tryz.prog 28 ⟨Tryz.f28, none⟩ := .mk0 Tryz.func28 (by kernel_rfl) (by kernel_rfl)
theorem fok29 : FnRow Tryz.prog 29 ⟨Tryz.f29, none⟩ := .mk0 Tryz.func29 (by kernel_rfl) (by kernel_rfl)
theorem fok30 : FnRow Tryz.prog 30 ⟨Tryz.f30, none⟩ := .mk0 Tryz.func30 (by kernel_rfl) (by kernel_rfl)
theorem fok31 : FnRow Tryz.prog 31 ⟨Tryz.f31, none⟩ := .mk0 Tryz.func31 (by kernel_rfl) (by kernel_rfl)
theorem fok32 : FnRow Tryz.prog 32 ⟨Tryz.f32, none⟩ := .mk0 Tryz.func32 (by kernel_rfl) (by kernel_rfl)
theorem fok33 : FnRow Tryz.prog 33 ⟨Tryz.f33, none⟩ := .mk0 Tryz.func33 (by kernel_rfl) (by kernel_rfl)
theorem fok34 : FnRow Tryz.prog 34 ⟨Tryz.f34, none⟩ := .mk0 Tryz.func34 (by kernel_rfl) (by kernel_rfl)
theorem fok35 : FnRow Tryz.prog 35 ⟨Tryz.f35, none⟩ := .mk0 Tryz.func35 (by kernel_rfl) (by kernel_rfl)
theorem fok36 : FnRow Tryz.prog 36 ⟨Tryz.f36, none⟩ := .mk0 Tryz.func36 (by kernel_rfl) (by kernel_rfl)
theorem fok37 : FnRow Tryz.prog 37 ⟨Tryz.f37, none⟩ := .mk0 Tryz.func37 (by kernel_rfl) (by kernel_rfl)
theorem fok38 : FnRow Tryz.prog 38 ⟨Tryz.f38, none⟩ := .mk0 Tryz.func38 (by kernel_rfl) (by kernel_rfl)
theorem fok39 : FnRow Tryz.prog 39 ⟨Tryz.f39, none⟩ := .mk0 Tryz.func39 (by kernel_rfl) (by kernel_rfl)
theorem fok40 : FnRow Tryz.prog 40 ⟨Tryz.f40, none⟩ := .mk0 Tryz.func40 (by kernel_rfl) (by kernel_rfl)
theorem fok41 : FnRow Tryz.prog 41 ⟨Tryz.f41, none⟩ := .mk0 Tryz.func41 (by kernel_rfl) (by kernel_rfl)
theorem fok42 : FnRow Tryz.prog 42 ⟨Tryz.f42, none⟩ := .mk0 Tryz.func42 (by kernel_rfl) (by kernel_rfl)
theorem fok43 : FnRow Tryz.prog 43 ⟨Tryz.f43, none⟩ := .mk0 Tryz.func43 (by kernel_rfl) (by kernel_rfl)
theorem fok44 : FnRow Tryz.prog 44 ⟨Tryz.f44, none⟩ := .mk0 Tryz.func44 (by kernel_rfl) (by kernel_rfl)
theorem fok45 : FnRow Tryz.prog 45 ⟨Tryz.f45, none⟩ := .mk0 Tryz.func45 (by kernel_rfl) (by kernel_rfl)
theorem fok46 : FnRow Tryz.prog 46 ⟨Tryz.f46, none⟩ := .mk0 Tryz.func46 (by kernel_rfl) (by kernel_rfl)
theorem fok47 : FnRow Tryz.prog 47 ⟨Tryz.f47, none⟩ := .mk0 Tryz.func47 (by kernel_rfl) (by kernel_rfl)
theorem fok48 : FnRow Tryz.prog 48 ⟨Tryz.f48, none⟩ := .mk0 Tryz.func48 (by kernel_rfl) (by kernel_rfl)
theorem fok49 : FnRow Tryz.prog 49 ⟨Tryz.f49, none⟩ := .mk0 Tryz.func49 (by kernel_rfl) (by kernel_rfl)
theorem fok50 : FnRow Tryz.prog 50 ⟨Tryz.f50, none⟩ := .mk0 Tryz.func50 (by kernel_rfl) (by kernel_rfl)
theorem fok51 : FnRow Tryz.prog 51 ⟨Tryz.f51, none⟩ := .mk0 Tryz.func51 (by kernel_rfl) (by kernel_rfl)
theorem fok52 : FnRow Tryz.prog 52 ⟨Tryz.f52, none⟩ := .mk0 Tryz.func52 (by kernel_rfl) (by kernel_rfl)
theorem fok53 : FnRow Tryz.prog 53 ⟨Tryz.f53, none⟩ := .mk0 Tryz.func53 (by kernel_rfl) (by kernel_rfl)
theorem fok54 : FnRow Tryz.prog 54 ⟨Tryz.f54, none⟩ := .mk0 Tryz.func54 (by kernel_rfl) (by kernel_rfl)
theorem fok55 : FnRow Tryz.prog 55 ⟨Tryz.f55, none⟩ := .mk0 Tryz.func55 (by kernel_rfl) (by kernel_rfl)
theorem fok56 : FnRow Tryz.prog 56 ⟨Tryz.f56, none⟩ := .mk0 Tryz.func56 (by kernel_rfl) (by kernel_rfl)
theorem fok57 : FnRow Tryz.prog 57 ⟨Tryz.f57, none⟩ := .mk0 Tryz.func57 (by kernel_rfl) (by kernel_rfl)
theorem fok58 : FnRow Tryz.prog 58 ⟨Tryz.f58, none⟩ := .mk0 Tryz.func58 (by kernel_rfl) (by kernel_rfl)
theorem fok59 : FnRow Tryz.prog 59 ⟨Tryz.f59, none⟩ := .mk0 Tryz.func59 (by kernel_rfl) (by kernel_rfl)
theorem fok60 : FnRow Tryz.prog 60 ⟨Tryz.f60, none⟩ := .mk0 Tryz.func60 (by kernel_rfl) (by kernel_rfl)
theorem fok61 : FnRow Tryz.prog 61 ⟨Tryz.f61, none⟩ := .mk0 Tryz.func61 (by kernel_rfl) (by kernel_rfl)
theorem fok62 : FnRow Tryz.prog 62 ⟨Tryz.f62, none⟩ := .mk0 Tryz.func62 (by kernel_rfl) (by kernel_rfl)
theorem fok63 : FnRow Tryz.prog 63 ⟨Tryz.f63, none⟩ := .mk0 Tryz.func63 (by kernel_rfl) (by kernel_rfl)
theorem fok64 : FnRow Tryz.prog 64 ⟨Tryz.f64, none⟩ := .mk0 Tryz.func64 (by kernel_rfl) (by kernel_rfl)
theorem fok65 : FnRow Tryz.prog 65 ⟨Tryz.f65, none⟩ := .mk0 Tryz.func65 (by kernel_rfl) (by kernel_rfl)
theorem fok66 : FnRow Tryz.prog 66 ⟨Tryz.f66, none⟩ := .mk0 Tryz.func66 (by kernel_rfl) (by kernel_rfl)
theorem fok67 : FnRow Tryz.prog 67 ⟨Tryz.f67, none⟩ := .mk0 Tryz.func67 (by kernel_rfl) (by kernel_rfl)
theorem fok68 : FnRow Tryz.prog 68 ⟨Tryz.f68, none⟩ := .mk0 Tryz.func68 (by kernel_rfl) (by kernel_rfl)
theorem fok69 : FnRow Tryz.prog 69 ⟨Tryz.f69, none⟩ := .mk0 Tryz.func69 (by kernel_rfl) (by kernel_rfl)
theorem fok70 : FnRow Tryz.prog 70 ⟨Tryz.f70, none⟩ := .mk0 Tryz.func70 (by kernel_rfl) (by kernel_rfl)
theorem fok71 : FnRow Tryz.prog 71 ⟨Tryz.f71, none⟩ := .mk0 Tryz.func71 (by kernel_rfl) (by kernel_rfl)
theorem fok72 : FnRow Tryz.prog 72 ⟨Tryz.f72, none⟩ := .mk0 Tryz.func72 (by kernel_rfl) (by kernel_rfl)
theorem fok73 : FnRow Tryz.prog 73 ⟨Tryz.f73, none⟩ := .mk0 Tryz.func73 (by kernel_rfl) (by kernel_rfl)
theorem fok74 : FnRow Tryz.prog 74 ⟨Tryz.f74, none⟩ := .mk0 Tryz.func74 (by kernel_rfl) (by kernel_rfl)
theorem fok75 : FnRow Tryz.prog 75 ⟨Tryz.f75, none⟩ := .mk0 Tryz.func75 (by kernel_rfl) (by kernel_rfl)
theorem fok76 : FnRow Tryz.prog 76 ⟨Tryz.f76, none⟩ := .mk0 Tryz.func76 (by kernel_rfl) (by kernel_rfl)
theorem fok77 : FnRow Tryz.prog 77 ⟨Tryz.f77, none⟩ := .mk0 Tryz.func77 (by kernel_rfl) (by kernel_rfl)
theorem fok78 : FnRow Tryz.prog 78 ⟨Tryz.f78, none⟩ := .mk0 Tryz.func78 (by kernel_rfl) (by kernel_rfl)
theorem fok79 : FnRow Tryz.prog 79 ⟨Tryz.f79, none⟩ := .mk0 Tryz.func79 (by kernel_rfl) (by kernel_rfl)
theorem fok80 : FnRow Tryz.prog 80 ⟨Tryz.f80, none⟩ := .mk0 Tryz.func80 (by kernel_rfl) (by kernel_rfl)
theorem fok81 : FnRow Tryz.prog 81 ⟨Tryz.f81, none⟩ := .mk0 Tryz.func81 (by kernel_rfl) (by kernel_rfl)
theorem fok82 : FnRow Tryz.prog 82 ⟨Tryz.f82, none⟩ := .mk0 Tryz.func82 (by kernel_rfl) (by kernel_rfl)
theorem fok83 : FnRow Tryz.prog 83 ⟨Tryz.f83, none⟩ := .mk0 Tryz.func83 (by kernel_rfl) (by kernel_rfl)
theorem fok84 : FnRow Tryz.prog 84 ⟨Tryz.f84, none⟩ := .mk0 Tryz.func84 (by kernel_rfl) (by kernel_rfl)
theorem fok85 : FnRow Tryz.prog 85 ⟨Tryz.f85, none⟩ := .mk0 Tryz.func85 (by kernel_rfl) (by kernel_rfl)
theorem fok86 : FnRow Tryz.prog 86 ⟨Tryz.f86, none⟩ := .mk0 Tryz.func86 (by kernel_rfl) (by kernel_rfl)
theorem fok87 : FnRow Tryz.prog 87 ⟨Tryz.f87, none⟩ := .mk0 Tryz.func87 (by kernel_rfl) (by kernel_rfl)
theorem fok88 : FnRow Tryz.prog 88 ⟨Tryz.f88, none⟩ := .mk0 Tryz.func88 (by kernel_rfl) (by kernel_rfl)
theorem fok89 : FnRow Tryz.prog 89 ⟨Tryz.f89, none⟩ := .mk0 Tryz.func89 (by kernel_rfl) (by kernel_rfl)
theorem fok90 : FnRow Tryz.prog 90 ⟨Tryz.f90, none⟩ := .mk0 Tryz.func90 (by kernel_rfl) (by kernel_rfl)
theorem fok91 : FnRow Tryz.prog 91 ⟨Tryz.f91, none⟩ := .mk0 Tryz.func91 (by kernel_rfl) (by kernel_rfl)
theorem fok92 : FnRow Tryz.prog 92 ⟨Tryz.f92, none⟩ := .mk0 Tryz.func92 (by kernel_rfl) (by kernel_rfl)
theorem fok93 : FnRow Tryz.prog 93 ⟨Tryz.f93, none⟩ := .mk0 Tryz.func93 (by kernel_rfl) (by kernel_rfl)
theorem fok94 : FnRow Tryz.prog 94 ⟨Tryz.f94, none⟩ := .mk0 Tryz.func94 (by kernel_rfl) (by kernel_rfl)
theorem fok95 : FnRow Tryz.prog 95 ⟨Tryz.f95, none⟩ := .mk0 Tryz.func95 (by kernel_rfl) (by kernel_rfl)
theorem fok96 : FnRow Tryz.prog 96 ⟨Tryz.f96, none⟩ := .mk0 Tryz.func96 (by kernel_rfl) (by kernel_rfl)
theorem fok97 : FnRow Tryz.prog 97 ⟨Tryz.f97, none⟩ := .mk0 Tryz.func97 (by kernel_rfl) (by kernel_rfl)
theorem fok98 : FnRow Tryz.prog 98 ⟨Tryz.f98, none⟩ := .mk0 Tryz.func98 (by kernel_rfl) (by kernel_rfl)
theorem fok99 : FnRow Tryz.prog 99 ⟨Tryz.f99, none⟩ := .mk0 Tryz.func99 (by kernel_rfl) (by kernel_rfl)
theorem fok100 : FnRow Tryz.prog 100 ⟨Tryz.f100, none⟩ := .mk0 Tryz.func100 (by kernel_rfl) (by kernel_rfl)
theorem fok101 : FnRow Tryz.prog 101 ⟨Tryz.f101, none⟩ := .mk0 Tryz.func101 (by kernel_rfl) (by kernel_rfl)
theorem fok102 : FnRow Tryz.prog 102 ⟨Tryz.f102, some .indexByte⟩ := .mkIdx Tryz.func102 (by kernel_rfl) (by kernel_rfl) (by kernel_rfl) (by kernel_rfl)
theorem fok103 : FnRow Tryz.prog 103 ⟨Tryz.f103, none⟩ := .mk0 Tryz.func103 (by kernel_rfl) (by kernel_rfl)
theorem fok104 : FnRow Tryz.prog 104 ⟨Tryz.f104, none⟩ := .mk0 Tryz.func104 (by kernel_rfl) (by kernel_rfl)
theorem fok105 : FnRow Tryz.prog 105 ⟨Tryz.f105, none⟩ := .mk0 Tryz.func105 (by kernel_rfl) (by kernel_rfl)
theorem fok106 : FnRow Tryz.prog 106 ⟨Tryz.f106, none⟩ := .mk0 Tryz.func106 (by kernel_rfl) (by kernel_rfl)
theorem fok107 : FnRow Tryz.prog 107 ⟨Tryz.f107, none⟩ := .mk0 Tryz.func107 (by kernel_rfl) (by kernel_rfl)
theorem fok108 : FnRow Tryz.prog 108 ⟨Tryz.f108, none⟩ := .mk0 Tryz.func108 (by kernel_rfl) (by kernel_rfl)
theorem fok109 : FnRow Tryz.prog 109 ⟨Tryz.f109, none⟩ := .mk0 Tryz.func109 (by kernel_rfl) (by kernel_rfl)
theorem fok110 : FnRow Tryz.prog 110 ⟨Tryz.f110, none⟩ := .mk0 Tryz.func110 (by kernel_rfl) (by kernel_rfl)
theorem fok111 : FnRow Tryz.prog 111 ⟨Tryz.f111, none⟩ := .mk0 Tryz.func111 (by kernel_rfl) (by kernel_rfl)
theorem fok112 : FnRow Tryz.prog 112 ⟨Tryz.f112, none⟩ := .mk0 Tryz.func112 (by kernel_rfl) (by kernel_rfl)
theorem fok113 : FnRow Tryz.prog 113 ⟨Tryz.f113, none⟩ := .mk0 Tryz.func113 (by kernel_rfl) (by kernel_rfl)
theorem fok114 : FnRow Tryz.prog 114 ⟨Tryz.f114, none⟩ := .mk0 Tryz.func114 (by kernel_rfl) (by kernel_rfl)
theorem fok115 : FnRow Tryz.prog 115 ⟨Tryz.f115, none⟩ := .mk0 Tryz.func115 (by kernel_rfl) (by kernel_rfl)
theorem fok116 : FnRow Tryz.prog 116 ⟨Tryz.f116, none⟩ := .mk0 Tryz.func116 (by kernel_rfl) (by kernel_rfl)
theorem fok117 : FnRow Tryz.prog 117 ⟨Tryz.f117, none⟩ := .mk0 Tryz.func117 (by kernel_rfl) (by kernel_rfl)
theorem fok118 : FnRow Tryz.prog 118 ⟨Tryz.f118, none⟩ := .mk0 Tryz.func118 (by kernel_rfl) (by kernel_rfl)
theorem fok119 : FnRow Tryz.prog 119 ⟨Tryz.f119, none⟩ := .mk0 Tryz.func119 (by kernel_rfl) (by kernel_rfl)
theorem fok120 : FnRow Tryz.prog 120 ⟨Tryz.f120, none⟩ := .mk0 Tryz.func120 (by kernel_rfl) (by kernel_rfl)
theorem fok121 : FnRow Tryz.prog 121 ⟨Tryz.f121, none⟩ := .mk0 Tryz.func121 (by kernel_rfl) (by kernel_rfl)
theorem fok122 : FnRow Tryz.prog 122 ⟨Tryz.f122, none⟩ := .mk0 Tryz.func122 (by kernel_rfl) (by kernel_rfl)
theorem fok123 : FnRow Tryz.prog 123 ⟨Tryz.f123, none⟩ := .mk0 Tryz.func123 (by kernel_rfl) (by kernel_rfl)
theorem fok124 : FnRow Tryz.prog 124 ⟨Tryz.f124, none⟩ := .mk0 Tryz.func124 (by kernel_rfl) (by kernel_rfl)
theorem fok125 : FnRow Tryz.prog 125 ⟨Tryz.f125, none⟩ := .mk0 Tryz.func125 (by kernel_rfl) (by kernel_rfl)
theorem fok126 : FnRow Tryz.prog 126 ⟨Tryz.f126, none⟩ := .mk0 Tryz.func126 (by kernel_rfl) (by kernel_rfl)
theorem fok127 : FnRow Tryz.prog 127 ⟨Tryz.f127, none⟩ := .mk0 Tryz.func127 (by kernel_rfl) (by kernel_rfl)
theorem fok128 : FnRow Tryz.prog 128 ⟨Tryz.f128, none⟩ := .mk0 Tryz.func128 (by kernel_rfl) (by kernel_rfl)
theorem fok129 : FnRow Tryz.prog 129 ⟨Tryz.f129, none⟩ := .mk0 Tryz.func129 (by kernel_rfl) (by kernel_rfl)
theorem fok130 : FnRow Tryz.prog 130 ⟨Tryz.f130, none⟩ := .mk0 Tryz.func130 (by kernel_rfl) (by kernel_rfl)
theorem fok131 : FnRow Tryz.prog 131 ⟨Tryz.f131, none⟩ := .mk0 Tryz.func131 (by kernel_rfl) (by kernel_rfl)
theorem fok132 : FnRow Tryz.prog 132 ⟨Tryz.f132, none⟩ := .mk0 Tryz.func132 (by kernel_rfl) (by kernel_rfl)
theorem fok133 : FnRow Tryz.prog 133 ⟨Tryz.f133, none⟩ := .mk0 Tryz.func133 (by kernel_rfl) (by kernel_rfl)
theorem fok134 : FnRow Tryz.prog 134 ⟨Tryz.f134, none⟩ := .mk0 Tryz.func134 (by kernel_rfl) (by kernel_rfl)
theorem fok135 : FnRow Tryz.prog 135 ⟨Tryz.f135, none⟩ := .mk0 Tryz.func135 (by kernel_rfl) (by kernel_rfl)
theorem fok136 : FnRow Tryz.prog 136 ⟨Tryz.f136, none⟩ := .mk0 Tryz.func136 (by kernel_rfl) (by kernel_rfl)
theorem fok137 : FnRow Tryz.prog 137 ⟨Tryz.f137, none⟩ := .mk0 Tryz.func137 (by kernel_rfl) (by kernel_rfl)
theorem fok138 : FnRow Tryz.prog 138 ⟨Tryz.f138, none⟩ := .mk0 Tryz.func138 (by kernel_rfl) (by kernel_rfl)
theorem fok165 : FnRow Tryz.prog 165 ⟨Tryz.f165, none⟩ := .mk0 Tryz.func165 (by kernel_rfl) (by kernel_rfl)
theorem typesOK : T.AllK (TyRow Tryz.prog 210) 1 0 typesT :=
  ⟨tok0, ⟨tok1, ⟨tok3, ⟨tok7, ⟨tok15, ⟨tok31, ⟨tok63, ⟨tok127, trivial, trivial⟩, ⟨tok191, trivial, trivial⟩⟩, ⟨tok95, ⟨tok159, trivial, trivial⟩, trivial⟩⟩, ⟨tok47, ⟨tok79, ⟨tok143, trivial, trivial⟩, ⟨tok207, trivial, trivial⟩⟩, ⟨tok111, ⟨tok175, trivial, trivial⟩, trivial⟩⟩⟩, ⟨tok23, ⟨tok39, ⟨tok71, ⟨tok135, trivial, trivial⟩, ⟨tok199, trivial, trivial⟩⟩, ⟨tok103, ⟨tok167, trivial, trivial⟩, trivial⟩⟩, ⟨tok55, ⟨tok87, ⟨tok151, trivial, trivial⟩, trivial⟩, ⟨tok119, ⟨tok183, trivial, trivial⟩, trivial⟩⟩⟩⟩, ⟨tok11, ⟨tok19, ⟨tok35, ⟨tok67, ⟨tok131, trivial, trivial⟩, ⟨tok195, trivial, trivial⟩⟩, ⟨tok99, ⟨tok163, trivial, trivial⟩, trivial⟩⟩, ⟨tok51, ⟨tok83, ⟨tok147, trivial, trivial⟩, trivial⟩, ⟨tok115, ⟨tok179, trivial, trivial⟩, trivial⟩⟩⟩, ⟨tok27, ⟨tok43, ⟨tok75, ⟨tok139, trivial, trivial⟩, ⟨tok203, trivial, trivial⟩⟩, ⟨tok107, ⟨tok171, trivial, trivial⟩, trivial⟩⟩, ⟨tok59, ⟨tok91, ⟨tok155, trivial, trivial⟩, trivial⟩, ⟨tok123, ⟨tok187, trivial, trivial⟩, trivial⟩⟩⟩⟩⟩, ⟨tok5, ⟨tok9, ⟨tok17, ⟨tok33, ⟨tok65, ⟨tok129, trivial, trivial⟩, ⟨tok193, trivial, trivial⟩⟩, ⟨tok97, ⟨tok161, trivial, trivial⟩, trivial⟩⟩, ⟨tok49, ⟨tok81, ⟨tok145, trivial, trivial⟩, ⟨tok209, trivial, trivial⟩⟩, ⟨tok113, ⟨tok177, trivial, trivial⟩, trivial⟩⟩⟩, ⟨tok25, ⟨tok41, ⟨tok73, ⟨tok137, trivial, trivial⟩, ⟨tok201, trivial, trivial⟩⟩, ⟨tok105, ⟨tok169, trivial, trivial⟩, trivial⟩⟩, ⟨tok57, ⟨tok89, ⟨tok153, trivial, trivial⟩, trivial⟩, ⟨tok121, ⟨tok185, trivial, trivial⟩, trivial⟩⟩⟩⟩, ⟨tok13, ⟨tok21, ⟨tok37, ⟨tok69, ⟨tok133, trivial, trivial⟩, ⟨tok197, trivial, trivial⟩⟩, ⟨tok101, ⟨tok165, trivial, trivial⟩, trivial⟩⟩, ⟨tok53, ⟨tok85, ⟨tok149, trivial, trivial⟩, trivial⟩, ⟨tok117, ⟨tok181, trivial, trivial⟩, trivial⟩⟩⟩, ⟨tok29, ⟨tok45, ⟨tok77, ⟨tok141, trivial, trivial⟩, ⟨tok205, trivial, trivial⟩⟩, ⟨tok109, ⟨tok173, trivial, trivial⟩, trivial⟩⟩, ⟨tok61, ⟨tok93, ⟨tok157, trivial, trivial⟩, trivial⟩, ⟨tok125, ⟨tok189, trivial, trivial⟩, trivial⟩⟩⟩⟩⟩⟩, ⟨tok2, ⟨tok4, ⟨tok8, ⟨tok16, ⟨tok32, ⟨tok64, ⟨tok128, trivial, trivial⟩, ⟨tok192, trivial, trivial⟩⟩, ⟨tok96, ⟨tok160, trivial, trivial⟩, trivial⟩⟩, ⟨tok48, ⟨tok80, ⟨tok144, trivial, trivial⟩, ⟨tok208, trivial, trivial⟩⟩, ⟨tok112, ⟨tok176, trivial, trivial⟩, trivial⟩⟩⟩, ⟨tok24, ⟨tok40, ⟨tok72, ⟨tok136, trivial, trivial⟩, ⟨tok200, trivial, trivial⟩⟩, ⟨tok104, ⟨tok168, trivial, trivial⟩, trivial⟩⟩, ⟨tok56, ⟨tok88, ⟨tok152, trivial, trivial⟩, trivial⟩, ⟨tok120, ⟨tok184, trivial, trivial⟩, trivial⟩⟩⟩⟩, ⟨tok12, ⟨tok20, ⟨tok36, ⟨tok68, ⟨tok132, trivial, trivial⟩, ⟨tok196, trivial, trivial⟩⟩, ⟨tok100, ⟨tok164, trivial, trivial⟩, trivial⟩⟩, ⟨tok52, ⟨tok84, ⟨tok148, trivial, trivial⟩, trivial⟩, ⟨tok116, ⟨tok180, trivial, trivial⟩, trivial⟩⟩⟩, ⟨tok28, ⟨tok44, ⟨tok76, ⟨tok140, trivial, trivial⟩, ⟨tok204, trivial, trivial⟩⟩, ⟨tok108, ⟨tok172, trivial, trivial⟩, trivial⟩⟩, ⟨tok60, ⟨tok92, ⟨tok156, trivial, trivial⟩, trivial⟩, ⟨tok124, ⟨tok188, trivial, trivial⟩, trivial⟩⟩⟩⟩⟩, ⟨tok6, ⟨tok10, ⟨tok18, ⟨tok34, ⟨tok66, ⟨tok130, trivial, trivial⟩, ⟨tok194, trivial, trivial⟩⟩, ⟨tok98, ⟨tok162, trivial, trivial⟩, trivial⟩⟩, ⟨tok50, ⟨tok82, ⟨tok146, trivial, trivial⟩, trivial⟩, ⟨tok114, ⟨tok178, trivial, trivial⟩, trivial⟩⟩⟩, ⟨tok26, ⟨tok42, ⟨tok74, ⟨tok138, trivial, trivial⟩, ⟨tok202, trivial, trivial⟩⟩, ⟨tok106, ⟨tok170, trivial, trivial⟩, trivial⟩⟩, ⟨tok58, ⟨tok90, ⟨tok154, trivial, trivial⟩, trivial⟩, ⟨tok122, ⟨tok186, trivial, trivial⟩, trivial⟩⟩⟩⟩, ⟨tok14, ⟨tok22, ⟨tok38, ⟨tok70, ⟨tok134, trivial, trivial⟩, ⟨tok198, trivial, trivial⟩⟩, ⟨tok102, ⟨tok166, trivial, trivial⟩, trivial⟩⟩, ⟨tok54, ⟨tok86, ⟨tok150, trivial, trivial⟩, trivial⟩, ⟨tok118, ⟨tok182, trivial, trivial⟩, trivial⟩⟩⟩, ⟨tok30, ⟨tok46, ⟨tok78, ⟨tok142, trivial, trivial⟩, ⟨tok206, trivial, trivial⟩⟩, ⟨tok110, ⟨tok174, trivial, trivial⟩, trivial⟩⟩, ⟨tok62, ⟨tok94, ⟨tok158, trivial, trivial⟩, trivial⟩, ⟨tok126, ⟨tok190, trivial, trivial⟩, trivial⟩⟩⟩⟩⟩⟩⟩
theorem funcsOK : T.AllK (FnRow Tryz.prog) 1 0 funcsT :=
  ⟨trivial, ⟨trivial, ⟨fok3, ⟨fok7, ⟨fok15, ⟨fok31, ⟨fok63, ⟨fok127, trivial, trivial⟩, trivial⟩, ⟨fok95, ⟨trivial, trivial, trivial⟩, trivial⟩⟩, ⟨fok47, ⟨fok79, ⟨trivial, trivial, trivial⟩, trivial⟩, ⟨fok111, trivial, trivial⟩⟩⟩, ⟨fok23, ⟨fok39, ⟨fok71, ⟨fok135, trivial, trivial⟩, trivial⟩, ⟨fok103, trivial, trivial⟩⟩, ⟨fok55, ⟨fok87, ⟨trivial, trivial, trivial⟩, trivial⟩, ⟨fok119, trivial, trivial⟩⟩⟩⟩, ⟨fok11, ⟨fok19, ⟨fok35, ⟨fok67, ⟨fok131, trivial, trivial⟩, trivial⟩, ⟨fok99, ⟨trivial, trivial, trivial⟩, trivial⟩⟩, ⟨fok51, ⟨fok83, ⟨trivial, trivial, trivial⟩, trivial⟩, ⟨fok115, trivial, trivial⟩⟩⟩, ⟨fok27, ⟨fok43, ⟨fok75, ⟨trivial, trivial, trivial⟩, trivial⟩, ⟨fok107, trivial, trivial⟩⟩, ⟨fok59, ⟨fok91, ⟨trivial, trivial, trivial⟩, trivial⟩, ⟨fok123, trivial, trivial⟩⟩⟩⟩⟩, ⟨fok5, ⟨fok9, ⟨fok17, ⟨fok33, ⟨fok65, ⟨fok129, trivial, trivial⟩, trivial⟩, ⟨fok97, ⟨trivial, trivial, trivial⟩, trivial⟩⟩, ⟨fok49, ⟨fok81, ⟨trivial, trivial, trivial⟩, trivial⟩, ⟨fok113, trivial, trivial⟩⟩⟩, ⟨fok25, ⟨fok41, ⟨fok73, ⟨fok137, trivial, trivial⟩, trivial⟩, ⟨fok105, trivial, trivial⟩⟩, ⟨fok57, ⟨fok89, ⟨trivial, trivial, trivial⟩, trivial⟩, ⟨fok121, trivial, trivial⟩⟩⟩⟩, ⟨fok13, ⟨fok21, ⟨fok37, ⟨fok69, ⟨fok133, trivial, trivial⟩, trivial⟩, ⟨fok101, ⟨fok165, trivial, trivial⟩, trivial⟩⟩, ⟨fok53, ⟨fok85, ⟨trivial, trivial, trivial⟩, trivial⟩, ⟨fok117, trivial, trivial⟩⟩⟩, ⟨fok29, ⟨fok45, ⟨fok77, ⟨trivial, trivial, trivial⟩, trivial⟩, ⟨fok109, trivial, trivial⟩⟩, ⟨fok61, ⟨fok93, ⟨trivial, trivial, trivial⟩, trivial⟩, ⟨fok125, trivial, trivial⟩⟩⟩⟩⟩⟩, ⟨fok2, ⟨fok4, ⟨fok8, ⟨fok16, ⟨fok32, ⟨fok64, ⟨fok128, trivial, trivial⟩, trivial⟩, ⟨fok96, ⟨trivial, trivial, trivial⟩, trivial⟩⟩, ⟨fok48, ⟨fok80, ⟨trivial, trivial, trivial⟩, trivial⟩, ⟨fok112, trivial, trivial⟩⟩⟩, ⟨fok24, ⟨fok40, ⟨fok72, ⟨fok136, trivial, trivial⟩, trivial⟩, ⟨fok104, trivial, trivial⟩⟩, ⟨fok56, ⟨fok88, ⟨trivial, trivial, trivial⟩, trivial⟩, ⟨fok120, trivial, trivial⟩⟩⟩⟩, ⟨fok12, ⟨fok20, ⟨fok36, ⟨fok68, ⟨fok132, trivial, trivial⟩, trivial⟩, ⟨fok100, ⟨trivial, trivial, trivial⟩, trivial⟩⟩, ⟨fok52, ⟨fok84, ⟨trivial, trivial, trivial⟩, trivial⟩, ⟨fok116, trivial, trivial⟩⟩⟩, ⟨fok28, ⟨fok44, ⟨fok76, ⟨trivial, trivial, trivial⟩, trivial⟩, ⟨fok108, trivial, trivial⟩⟩, ⟨fok60, ⟨fok92, ⟨trivial, trivial, trivial⟩, trivial⟩, ⟨fok124, trivial, trivial⟩⟩⟩⟩⟩, ⟨fok6, ⟨fok10, ⟨fok18, ⟨fok34, ⟨fok66, ⟨fok130, trivial, trivial⟩, trivial⟩, ⟨fok98, ⟨trivial, trivial, trivial⟩, trivial⟩⟩, ⟨fok50, ⟨fok82, ⟨trivial, trivial, trivial⟩, trivial⟩, ⟨fok114, trivial, trivial⟩⟩⟩, ⟨fok26, ⟨fok42, ⟨fok74, ⟨fok138, trivial, trivial⟩, trivial⟩, ⟨fok106, trivial, trivial⟩⟩, ⟨fok58, ⟨fok90, ⟨trivial, trivial, trivial⟩, trivial⟩, ⟨fok122, trivial, trivial⟩⟩⟩⟩, ⟨fok14, ⟨fok22, ⟨fok38, ⟨fok70, ⟨fok134, trivial, trivial⟩, trivial⟩, ⟨fok102, trivial, trivial⟩⟩, ⟨fok54, ⟨fok86, ⟨trivial, trivial, trivial⟩, trivial⟩, ⟨fok118, trivial, trivial⟩⟩⟩, ⟨fok30, ⟨fok46, ⟨fok78, ⟨trivial, trivial, trivial⟩, trivial⟩, ⟨fok110, trivial, trivial⟩⟩, ⟨fok62, ⟨fok94, ⟨trivial, trivial, trivial⟩, trivial⟩, ⟨fok126, trivial, trivial⟩⟩⟩⟩⟩⟩⟩
noncomputable def env : Env := ⟨typesT, funcsT, [], 0⟩
theorem envOK : EnvOK Tryz.prog env := EnvOK.of_tables (n := 210) (by kernel_rfl) (by kernel_rfl) typesOK funcsOK (by kernel_rfl)
end Go.Proofs.YtdmjlimmllhhoaaGreatDoor
