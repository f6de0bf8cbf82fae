/- The table of this seat's types. Printed by a program of this repo. -/
import Derived.Test.YtplkjfnjdekgpaaLtTab
import Derived.Test.YtplkjfnjdekgpaaChecked
namespace Go.Proofs.Ytplkjfnjdekgpaa
open Go

set_option maxRecDepth 100000

theorem tok1 : TIOk Try.prog 1 ⟨.func, 1, 8, .nilf, false⟩ := TIOk.func Try.underlying1 (by kernel_rfl : Try.prog.info? 1 = some Try.t1) rfl rfl rfl
theorem tok2 : TIOk Try.prog 2 ⟨.int .i64, 1, 8, .int .i64 0, false⟩ := TIOk.int Try.underlying2 (by kernel_rfl : Try.prog.info? 2 = some Try.t2) rfl rfl rfl
theorem tok3 : TIOk Try.prog 3 ⟨.int .i64, 1, 8, .int .i64 0, false⟩ := TIOk.int Try.underlying3 (by kernel_rfl : Try.prog.info? 3 = some Try.t3) rfl rfl rfl
theorem tok4 : TIOk Try.prog 4 ⟨.bool, 1, 1, .bool false, false⟩ := TIOk.bool Try.underlying4 (by kernel_rfl : Try.prog.info? 4 = some Try.t4) rfl rfl rfl
theorem tok5 : TIOk Try.prog 5 ⟨.int .u8, 1, 1, .int .u8 0, false⟩ := TIOk.int Try.underlying5 (by kernel_rfl : Try.prog.info? 5 = some Try.t5) rfl rfl rfl
theorem tok6 : TIOk Try.prog 6 ⟨.int .u8, 1, 1, .int .u8 0, false⟩ := TIOk.int Try.underlying6 (by kernel_rfl : Try.prog.info? 6 = some Try.t6) rfl rfl rfl
theorem tok9 : TIOk Try.prog 9 ⟨.str, 1, 16, .str ⟨#[]⟩, false⟩ := TIOk.str Try.underlying9 (by kernel_rfl : Try.prog.info? 9 = some Try.t9) rfl rfl rfl
theorem tok10 : TIOk Try.prog 10 ⟨.str, 1, 16, .str ⟨#[]⟩, false⟩ := TIOk.str Try.underlying10 (by kernel_rfl : Try.prog.info? 10 = some Try.t10) rfl rfl rfl
theorem tok11 : TIOk Try.prog 11 ⟨.str, 1, 16, .str ⟨#[]⟩, false⟩ := TIOk.str Try.underlying11 (by kernel_rfl : Try.prog.info? 11 = some Try.t11) rfl rfl rfl
theorem tok12 : TIOk Try.prog 12 ⟨.int .u64, 1, 8, .int .u64 0, false⟩ := TIOk.int Try.underlying12 (by kernel_rfl : Try.prog.info? 12 = some Try.t12) rfl rfl rfl
theorem tok21 : TIOk Try.prog 21 ⟨.int .i32, 1, 4, .int .i32 0, false⟩ := TIOk.int Try.underlying21 (by kernel_rfl : Try.prog.info? 21 = some Try.t21) rfl rfl rfl
theorem tok22 : TIOk Try.prog 22 ⟨.slice 75, 1, 24, .nils, false⟩ := TIOk.slice Try.underlying22 (by kernel_rfl : Try.prog.info? 22 = some Try.t22) rfl rfl rfl
theorem tok23 : TIOk Try.prog 23 ⟨.func, 1, 8, .nilf, false⟩ := TIOk.func Try.underlying23 (by kernel_rfl : Try.prog.info? 23 = some Try.t23) rfl rfl rfl
theorem tok24 : TIOk Try.prog 24 ⟨.func, 1, 8, .nilf, false⟩ := TIOk.func Try.underlying24 (by kernel_rfl : Try.prog.info? 24 = some Try.t24) rfl rfl rfl
theorem tok25 : TIOk Try.prog 25 ⟨.slice 73, 1, 24, .nils, false⟩ := TIOk.slice Try.underlying25 (by kernel_rfl : Try.prog.info? 25 = some Try.t25) rfl rfl rfl
theorem tok26 : TIOk Try.prog 26 ⟨.func, 1, 8, .nilf, false⟩ := TIOk.func Try.underlying26 (by kernel_rfl : Try.prog.info? 26 = some Try.t26) rfl rfl rfl
theorem tok27 : TIOk Try.prog 27 ⟨.func, 1, 8, .nilf, false⟩ := TIOk.func Try.underlying27 (by kernel_rfl : Try.prog.info? 27 = some Try.t27) rfl rfl rfl
theorem tok28 : TIOk Try.prog 28 ⟨.slice 78, 1, 24, .nils, false⟩ := TIOk.slice Try.underlying28 (by kernel_rfl : Try.prog.info? 28 = some Try.t28) rfl rfl rfl
theorem tok29 : TIOk Try.prog 29 ⟨.func, 1, 8, .nilf, false⟩ := TIOk.func Try.underlying29 (by kernel_rfl : Try.prog.info? 29 = some Try.t29) rfl rfl rfl
theorem tok30 : TIOk Try.prog 30 ⟨.func, 1, 8, .nilf, false⟩ := TIOk.func Try.underlying30 (by kernel_rfl : Try.prog.info? 30 = some Try.t30) rfl rfl rfl
theorem tok31 : TIOk Try.prog 31 ⟨.slice 38, 1, 24, .nils, false⟩ := TIOk.slice Try.underlying31 (by kernel_rfl : Try.prog.info? 31 = some Try.t31) rfl rfl rfl
theorem tok32 : TIOk Try.prog 32 ⟨.func, 1, 8, .nilf, false⟩ := TIOk.func Try.underlying32 (by kernel_rfl : Try.prog.info? 32 = some Try.t32) rfl rfl rfl
theorem tok33 : TIOk Try.prog 33 ⟨.func, 1, 8, .nilf, false⟩ := TIOk.func Try.underlying33 (by kernel_rfl : Try.prog.info? 33 = some Try.t33) rfl rfl rfl
theorem tok34 : TIOk Try.prog 34 ⟨.func, 1, 8, .nilf, false⟩ := TIOk.func Try.underlying34 (by kernel_rfl : Try.prog.info? 34 = some Try.t34) rfl rfl rfl
theorem tok35 : TIOk Try.prog 35 ⟨.func, 1, 8, .nilf, false⟩ := TIOk.func Try.underlying35 (by kernel_rfl : Try.prog.info? 35 = some Try.t35) rfl rfl rfl
theorem tok36 : TIOk Try.prog 36 ⟨.func, 1, 8, .nilf, false⟩ := TIOk.func Try.underlying36 (by kernel_rfl : Try.prog.info? 36 = some Try.t36) rfl rfl rfl
theorem tok37 : TIOk Try.prog 37 ⟨.slice 2, 1, 24, .nils, false⟩ := TIOk.slice Try.underlying37 (by kernel_rfl : Try.prog.info? 37 = some Try.t37) rfl rfl rfl
theorem tok38 : TIOk Try.prog 38 ⟨.slice 81, 1, 24, .nils, false⟩ := TIOk.slice Try.underlying38 (by kernel_rfl : Try.prog.info? 38 = some Try.t38) rfl rfl rfl
theorem tok39 : TIOk Try.prog 39 ⟨.struct [(0, 2), (1, 38), (2, 37)], 3, 56, .agg [.int .i64 0, .nils, .nils], false⟩ := TIOk.struct Try.underlying39 rfl (by kernel_rfl : Try.prog.info? 39 = some Try.t39) rfl rfl rfl rfl rfl rfl (fun h => by cases h)
theorem tok40 : TIOk Try.prog 40 ⟨.struct [(0, 2), (1, 38), (2, 37)], 3, 56, .agg [.int .i64 0, .nils, .nils], false⟩ := TIOk.struct Try.underlying40 rfl (by kernel_rfl : Try.prog.info? 40 = some Try.t40) rfl rfl rfl rfl rfl rfl (fun h => by cases h)
theorem tok41 : TIOk Try.prog 41 ⟨.func, 1, 8, .nilf, false⟩ := TIOk.func Try.underlying41 (by kernel_rfl : Try.prog.info? 41 = some Try.t41) rfl rfl rfl
theorem tok42 : TIOk Try.prog 42 ⟨.func, 1, 8, .nilf, false⟩ := TIOk.func Try.underlying42 (by kernel_rfl : Try.prog.info? 42 = some Try.t42) rfl rfl rfl
theorem tok43 : TIOk Try.prog 43 ⟨.func, 1, 8, .nilf, false⟩ := TIOk.func Try.underlying43 (by kernel_rfl : Try.prog.info? 43 = some Try.t43) rfl rfl rfl
theorem tok44 : TIOk Try.prog 44 ⟨.func, 1, 8, .nilf, false⟩ := TIOk.func Try.underlying44 (by kernel_rfl : Try.prog.info? 44 = some Try.t44) rfl rfl rfl
theorem tok45 : TIOk Try.prog 45 ⟨.func, 1, 8, .nilf, false⟩ := TIOk.func Try.underlying45 (by kernel_rfl : Try.prog.info? 45 = some Try.t45) rfl rfl rfl
theorem tok46 : TIOk Try.prog 46 ⟨.func, 1, 8, .nilf, false⟩ := TIOk.func Try.underlying46 (by kernel_rfl : Try.prog.info? 46 = some Try.t46) rfl rfl rfl
theorem tok47 : TIOk Try.prog 47 ⟨.func, 1, 8, .nilf, false⟩ := TIOk.func Try.underlying47 (by kernel_rfl : Try.prog.info? 47 = some Try.t47) rfl rfl rfl
theorem tok48 : TIOk Try.prog 48 ⟨.func, 1, 8, .nilf, false⟩ := TIOk.func Try.underlying48 (by kernel_rfl : Try.prog.info? 48 = some Try.t48) rfl rfl rfl
theorem tok50 : TIOk Try.prog 50 ⟨.struct [(0, 2), (1, 37)], 2, 32, .agg [.int .i64 0, .nils], false⟩ := TIOk.struct Try.underlying50 rfl (by kernel_rfl : Try.prog.info? 50 = some Try.t50) rfl rfl rfl rfl rfl rfl (fun h => by cases h)
theorem tok51 : TIOk Try.prog 51 ⟨.func, 1, 8, .nilf, false⟩ := TIOk.func Try.underlying51 (by kernel_rfl : Try.prog.info? 51 = some Try.t51) rfl rfl rfl
theorem tok52 : TIOk Try.prog 52 ⟨.func, 1, 8, .nilf, false⟩ := TIOk.func Try.underlying52 (by kernel_rfl : Try.prog.info? 52 = some Try.t52) rfl rfl rfl
theorem tok53 : TIOk Try.prog 53 ⟨.func, 1, 8, .nilf, false⟩ := TIOk.func Try.underlying53 (by kernel_rfl : Try.prog.info? 53 = some Try.t53) rfl rfl rfl
theorem tok54 : TIOk Try.prog 54 ⟨.func, 1, 8, .nilf, false⟩ := TIOk.func Try.underlying54 (by kernel_rfl : Try.prog.info? 54 = some Try.t54) rfl rfl rfl
theorem tok55 : TIOk Try.prog 55 ⟨.slice 113, 1, 24, .nils, false⟩ := TIOk.slice Try.underlying55 (by kernel_rfl : Try.prog.info? 55 = some Try.t55) rfl rfl rfl
theorem tok56 : TIOk Try.prog 56 ⟨.slice 116, 1, 24, .nils, false⟩ := TIOk.slice Try.underlying56 (by kernel_rfl : Try.prog.info? 56 = some Try.t56) rfl rfl rfl
theorem tok57 : TIOk Try.prog 57 ⟨.struct [(0, 55), (1, 56)], 2, 48, .agg [.nils, .nils], false⟩ := TIOk.struct Try.underlying57 rfl (by kernel_rfl : Try.prog.info? 57 = some Try.t57) rfl rfl rfl rfl rfl rfl (fun h => by cases h)
theorem tok58 : TIOk Try.prog 58 ⟨.struct [(0, 55), (1, 56)], 2, 48, .agg [.nils, .nils], false⟩ := TIOk.struct Try.underlying58 rfl (by kernel_rfl : Try.prog.info? 58 = some Try.t58) rfl rfl rfl rfl rfl rfl (fun h => by cases h)
theorem tok59 : TIOk Try.prog 59 ⟨.func, 1, 8, .nilf, false⟩ := TIOk.func Try.underlying59 (by kernel_rfl : Try.prog.info? 59 = some Try.t59) rfl rfl rfl
theorem tok61 : TIOk Try.prog 61 ⟨.struct [(0, 2), (1, 55)], 2, 32, .agg [.int .i64 0, .nils], false⟩ := TIOk.struct Try.underlying61 rfl (by kernel_rfl : Try.prog.info? 61 = some Try.t61) rfl rfl rfl rfl rfl rfl (fun h => by cases h)
theorem tok62 : TIOk Try.prog 62 ⟨.func, 1, 8, .nilf, false⟩ := TIOk.func Try.underlying62 (by kernel_rfl : Try.prog.info? 62 = some Try.t62) rfl rfl rfl
theorem tok63 : TIOk Try.prog 63 ⟨.slice 117, 1, 24, .nils, false⟩ := TIOk.slice Try.underlying63 (by kernel_rfl : Try.prog.info? 63 = some Try.t63) rfl rfl rfl
theorem tok64 : TIOk Try.prog 64 ⟨.struct [(0, 55), (1, 63)], 2, 48, .agg [.nils, .nils], false⟩ := TIOk.struct Try.underlying64 rfl (by kernel_rfl : Try.prog.info? 64 = some Try.t64) rfl rfl rfl rfl rfl rfl (fun h => by cases h)
theorem tok65 : TIOk Try.prog 65 ⟨.struct [(0, 55), (1, 63)], 2, 48, .agg [.nils, .nils], false⟩ := TIOk.struct Try.underlying65 rfl (by kernel_rfl : Try.prog.info? 65 = some Try.t65) rfl rfl rfl rfl rfl rfl (fun h => by cases h)
theorem tok66 : TIOk Try.prog 66 ⟨.func, 1, 8, .nilf, false⟩ := TIOk.func Try.underlying66 (by kernel_rfl : Try.prog.info? 66 = some Try.t66) rfl rfl rfl
theorem tok67 : TIOk Try.prog 67 ⟨.func, 1, 8, .nilf, false⟩ := TIOk.func Try.underlying67 (by kernel_rfl : Try.prog.info? 67 = some Try.t67) rfl rfl rfl
theorem tok68 : TIOk Try.prog 68 ⟨.func, 1, 8, .nilf, false⟩ := TIOk.func Try.underlying68 (by kernel_rfl : Try.prog.info? 68 = some Try.t68) rfl rfl rfl
theorem tok69 : TIOk Try.prog 69 ⟨.func, 1, 8, .nilf, false⟩ := TIOk.func Try.underlying69 (by kernel_rfl : Try.prog.info? 69 = some Try.t69) rfl rfl rfl
theorem tok70 : TIOk Try.prog 70 ⟨.func, 1, 8, .nilf, false⟩ := TIOk.func Try.underlying70 (by kernel_rfl : Try.prog.info? 70 = some Try.t70) rfl rfl rfl
theorem tok71 : TIOk Try.prog 71 ⟨.func, 1, 8, .nilf, false⟩ := TIOk.func Try.underlying71 (by kernel_rfl : Try.prog.info? 71 = some Try.t71) rfl rfl rfl
theorem tok73 : TIOk Try.prog 73 ⟨.struct [(0, 2), (1, 2)], 2, 16, .agg [.int .i64 0, .int .i64 0], true⟩ := TIOk.struct Try.underlying73 rfl (by kernel_rfl : Try.prog.info? 73 = some Try.t73) rfl rfl rfl rfl rfl rfl (fun _ => ⟨Try.stoodInHeld73, Try.eqGuardType73, by decide, by decide⟩)
theorem tok74 : TIOk Try.prog 74 ⟨.func, 1, 8, .nilf, false⟩ := TIOk.func Try.underlying74 (by kernel_rfl : Try.prog.info? 74 = some Try.t74) rfl rfl rfl
theorem tok75 : TIOk Try.prog 75 ⟨.struct [(0, 2), (1, 2)], 2, 16, .agg [.int .i64 0, .int .i64 0], true⟩ := TIOk.struct Try.underlying75 rfl (by kernel_rfl : Try.prog.info? 75 = some Try.t75) rfl rfl rfl rfl rfl rfl (fun _ => ⟨Try.stoodInHeld75, Try.eqGuardType75, by decide, by decide⟩)
theorem tok76 : TIOk Try.prog 76 ⟨.func, 1, 8, .nilf, false⟩ := TIOk.func Try.underlying76 (by kernel_rfl : Try.prog.info? 76 = some Try.t76) rfl rfl rfl
theorem tok77 : TIOk Try.prog 77 ⟨.func, 1, 8, .nilf, false⟩ := TIOk.func Try.underlying77 (by kernel_rfl : Try.prog.info? 77 = some Try.t77) rfl rfl rfl
theorem tok78 : TIOk Try.prog 78 ⟨.slice 107, 1, 24, .nils, false⟩ := TIOk.slice Try.underlying78 (by kernel_rfl : Try.prog.info? 78 = some Try.t78) rfl rfl rfl
theorem tok79 : TIOk Try.prog 79 ⟨.func, 1, 8, .nilf, false⟩ := TIOk.func Try.underlying79 (by kernel_rfl : Try.prog.info? 79 = some Try.t79) rfl rfl rfl
theorem tok81 : TIOk Try.prog 81 ⟨.struct [(0, 2), (1, 2), (2, 2), (3, 2)], 4, 32, .agg [.int .i64 0, .int .i64 0, .int .i64 0, .int .i64 0], true⟩ := TIOk.struct Try.underlying81 rfl (by kernel_rfl : Try.prog.info? 81 = some Try.t81) rfl rfl rfl rfl rfl rfl (fun _ => ⟨Try.stoodInHeld81, Try.eqGuardType81, by decide, by decide⟩)
theorem tok82 : TIOk Try.prog 82 ⟨.func, 1, 8, .nilf, false⟩ := TIOk.func Try.underlying82 (by kernel_rfl : Try.prog.info? 82 = some Try.t82) rfl rfl rfl
theorem tok83 : TIOk Try.prog 83 ⟨.func, 1, 8, .nilf, false⟩ := TIOk.func Try.underlying83 (by kernel_rfl : Try.prog.info? 83 = some Try.t83) rfl rfl rfl
theorem tok84 : TIOk Try.prog 84 ⟨.func, 1, 8, .nilf, false⟩ := TIOk.func Try.underlying84 (by kernel_rfl : Try.prog.info? 84 = some Try.t84) rfl rfl rfl
theorem tok85 : TIOk Try.prog 85 ⟨.func, 1, 8, .nilf, false⟩ := TIOk.func Try.underlying85 (by kernel_rfl : Try.prog.info? 85 = some Try.t85) rfl rfl rfl
theorem tok86 : TIOk Try.prog 86 ⟨.func, 1, 8, .nilf, false⟩ := TIOk.func Try.underlying86 (by kernel_rfl : Try.prog.info? 86 = some Try.t86) rfl rfl rfl
theorem tok87 : TIOk Try.prog 87 ⟨.func, 1, 8, .nilf, false⟩ := TIOk.func Try.underlying87 (by kernel_rfl : Try.prog.info? 87 = some Try.t87) rfl rfl rfl
theorem tok88 : TIOk Try.prog 88 ⟨.func, 1, 8, .nilf, false⟩ := TIOk.func Try.underlying88 (by kernel_rfl : Try.prog.info? 88 = some Try.t88) rfl rfl rfl
theorem tok89 : TIOk Try.prog 89 ⟨.slice 3, 1, 24, .nils, false⟩ := TIOk.slice Try.underlying89 (by kernel_rfl : Try.prog.info? 89 = some Try.t89) rfl rfl rfl
theorem tok90 : TIOk Try.prog 90 ⟨.func, 1, 8, .nilf, false⟩ := TIOk.func Try.underlying90 (by kernel_rfl : Try.prog.info? 90 = some Try.t90) rfl rfl rfl
theorem tok91 : TIOk Try.prog 91 ⟨.func, 1, 8, .nilf, false⟩ := TIOk.func Try.underlying91 (by kernel_rfl : Try.prog.info? 91 = some Try.t91) rfl rfl rfl
theorem tok92 : TIOk Try.prog 92 ⟨.func, 1, 8, .nilf, false⟩ := TIOk.func Try.underlying92 (by kernel_rfl : Try.prog.info? 92 = some Try.t92) rfl rfl rfl
theorem tok93 : TIOk Try.prog 93 ⟨.func, 1, 8, .nilf, false⟩ := TIOk.func Try.underlying93 (by kernel_rfl : Try.prog.info? 93 = some Try.t93) rfl rfl rfl
theorem tok94 : TIOk Try.prog 94 ⟨.func, 1, 8, .nilf, false⟩ := TIOk.func Try.underlying94 (by kernel_rfl : Try.prog.info? 94 = some Try.t94) rfl rfl rfl
theorem tok95 : TIOk Try.prog 95 ⟨.func, 1, 8, .nilf, false⟩ := TIOk.func Try.underlying95 (by kernel_rfl : Try.prog.info? 95 = some Try.t95) rfl rfl rfl
theorem tok96 : TIOk Try.prog 96 ⟨.func, 1, 8, .nilf, false⟩ := TIOk.func Try.underlying96 (by kernel_rfl : Try.prog.info? 96 = some Try.t96) rfl rfl rfl
theorem tok97 : TIOk Try.prog 97 ⟨.func, 1, 8, .nilf, false⟩ := TIOk.func Try.underlying97 (by kernel_rfl : Try.prog.info? 97 = some Try.t97) rfl rfl rfl
theorem tok99 : TIOk Try.prog 99 ⟨.func, 1, 8, .nilf, false⟩ := TIOk.func Try.underlying99 (by kernel_rfl : Try.prog.info? 99 = some Try.t99) rfl rfl rfl
theorem tok100 : TIOk Try.prog 100 ⟨.func, 1, 8, .nilf, false⟩ := TIOk.func Try.underlying100 (by kernel_rfl : Try.prog.info? 100 = some Try.t100) rfl rfl rfl
theorem tok101 : TIOk Try.prog 101 ⟨.func, 1, 8, .nilf, false⟩ := TIOk.func Try.underlying101 (by kernel_rfl : Try.prog.info? 101 = some Try.t101) rfl rfl rfl
theorem tok102 : TIOk Try.prog 102 ⟨.func, 1, 8, .nilf, false⟩ := TIOk.func Try.underlying102 (by kernel_rfl : Try.prog.info? 102 = some Try.t102) rfl rfl rfl
theorem tok103 : TIOk Try.prog 103 ⟨.func, 1, 8, .nilf, false⟩ := TIOk.func Try.underlying103 (by kernel_rfl : Try.prog.info? 103 = some Try.t103) rfl rfl rfl
theorem tok104 : TIOk Try.prog 104 ⟨.func, 1, 8, .nilf, false⟩ := TIOk.func Try.underlying104 (by kernel_rfl : Try.prog.info? 104 = some Try.t104) rfl rfl rfl
theorem tok105 : TIOk Try.prog 105 ⟨.func, 1, 8, .nilf, false⟩ := TIOk.func Try.underlying105 (by kernel_rfl : Try.prog.info? 105 = some Try.t105) rfl rfl rfl
theorem tok106 : TIOk Try.prog 106 ⟨.func, 1, 8, .nilf, false⟩ := TIOk.func Try.underlying106 (by kernel_rfl : Try.prog.info? 106 = some Try.t106) rfl rfl rfl
theorem tok107 : TIOk Try.prog 107 ⟨.struct [(0, 2), (1, 2), (2, 2), (3, 2)], 4, 32, .agg [.int .i64 0, .int .i64 0, .int .i64 0, .int .i64 0], true⟩ := TIOk.struct Try.underlying107 rfl (by kernel_rfl : Try.prog.info? 107 = some Try.t107) rfl rfl rfl rfl rfl rfl (fun _ => ⟨Try.stoodInHeld107, Try.eqGuardType107, by decide, by decide⟩)
theorem tok108 : TIOk Try.prog 108 ⟨.func, 1, 8, .nilf, false⟩ := TIOk.func Try.underlying108 (by kernel_rfl : Try.prog.info? 108 = some Try.t108) rfl rfl rfl
theorem tok109 : TIOk Try.prog 109 ⟨.func, 1, 8, .nilf, false⟩ := TIOk.func Try.underlying109 (by kernel_rfl : Try.prog.info? 109 = some Try.t109) rfl rfl rfl
theorem tok110 : TIOk Try.prog 110 ⟨.func, 1, 8, .nilf, false⟩ := TIOk.func Try.underlying110 (by kernel_rfl : Try.prog.info? 110 = some Try.t110) rfl rfl rfl
theorem tok111 : TIOk Try.prog 111 ⟨.func, 1, 8, .nilf, false⟩ := TIOk.func Try.underlying111 (by kernel_rfl : Try.prog.info? 111 = some Try.t111) rfl rfl rfl
theorem tok112 : TIOk Try.prog 112 ⟨.func, 1, 8, .nilf, false⟩ := TIOk.func Try.underlying112 (by kernel_rfl : Try.prog.info? 112 = some Try.t112) rfl rfl rfl
theorem tok113 : TIOk Try.prog 113 ⟨.slice 5, 1, 24, .nils, false⟩ := TIOk.slice Try.underlying113 (by kernel_rfl : Try.prog.info? 113 = some Try.t113) rfl rfl rfl
theorem tok114 : TIOk Try.prog 114 ⟨.func, 1, 8, .nilf, false⟩ := TIOk.func Try.underlying114 (by kernel_rfl : Try.prog.info? 114 = some Try.t114) rfl rfl rfl
theorem tok116 : TIOk Try.prog 116 ⟨.struct [(0, 2), (1, 2), (2, 113)], 3, 40, .agg [.int .i64 0, .int .i64 0, .nils], false⟩ := TIOk.struct Try.underlying116 rfl (by kernel_rfl : Try.prog.info? 116 = some Try.t116) rfl rfl rfl rfl rfl rfl (fun h => by cases h)
theorem tok117 : TIOk Try.prog 117 ⟨.struct [(0, 2), (1, 2), (2, 113)], 3, 40, .agg [.int .i64 0, .int .i64 0, .nils], false⟩ := TIOk.struct Try.underlying117 rfl (by kernel_rfl : Try.prog.info? 117 = some Try.t117) rfl rfl rfl rfl rfl rfl (fun h => by cases h)
theorem tok118 : TIOk Try.prog 118 ⟨.func, 1, 8, .nilf, false⟩ := TIOk.func Try.underlying118 (by kernel_rfl : Try.prog.info? 118 = some Try.t118) rfl rfl rfl
theorem tok119 : TIOk Try.prog 119 ⟨.func, 1, 8, .nilf, false⟩ := TIOk.func Try.underlying119 (by kernel_rfl : Try.prog.info? 119 = some Try.t119) rfl rfl rfl
theorem tok120 : TIOk Try.prog 120 ⟨.func, 1, 8, .nilf, false⟩ := TIOk.func Try.underlying120 (by kernel_rfl : Try.prog.info? 120 = some Try.t120) rfl rfl rfl
theorem tok121 : TIOk Try.prog 121 ⟨.func, 1, 8, .nilf, false⟩ := TIOk.func Try.underlying121 (by kernel_rfl : Try.prog.info? 121 = some Try.t121) rfl rfl rfl
theorem tok122 : TIOk Try.prog 122 ⟨.func, 1, 8, .nilf, false⟩ := TIOk.func Try.underlying122 (by kernel_rfl : Try.prog.info? 122 = some Try.t122) rfl rfl rfl
theorem tok123 : TIOk Try.prog 123 ⟨.func, 1, 8, .nilf, false⟩ := TIOk.func Try.underlying123 (by kernel_rfl : Try.prog.info? 123 = some Try.t123) rfl rfl rfl
theorem tok124 : TIOk Try.prog 124 ⟨.func, 1, 8, .nilf, false⟩ := TIOk.func Try.underlying124 (by kernel_rfl : Try.prog.info? 124 = some Try.t124) rfl rfl rfl
theorem tok125 : TIOk Try.prog 125 ⟨.func, 1, 8, .nilf, false⟩ := TIOk.func Try.underlying125 (by kernel_rfl : Try.prog.info? 125 = some Try.t125) rfl rfl rfl
theorem tok131 : TIOk Try.prog 131 ⟨.func, 1, 8, .nilf, false⟩ := TIOk.func Try.underlying131 (by kernel_rfl : Try.prog.info? 131 = some Try.t131) rfl rfl rfl
theorem tok132 : TIOk Try.prog 132 ⟨.int .u32, 1, 4, .int .u32 0, false⟩ := TIOk.int Try.underlying132 (by kernel_rfl : Try.prog.info? 132 = some Try.t132) rfl rfl rfl
theorem tok133 : TIOk Try.prog 133 ⟨.int .u8, 1, 1, .int .u8 0, false⟩ := TIOk.int Try.underlying133 (by kernel_rfl : Try.prog.info? 133 = some Try.t133) rfl rfl rfl
theorem tok134 : TIOk Try.prog 134 ⟨.int .u8, 1, 1, .int .u8 0, false⟩ := TIOk.int Try.underlying134 (by kernel_rfl : Try.prog.info? 134 = some Try.t134) rfl rfl rfl
theorem tok135 : TIOk Try.prog 135 ⟨.func, 1, 8, .nilf, false⟩ := TIOk.func Try.underlying135 (by kernel_rfl : Try.prog.info? 135 = some Try.t135) rfl rfl rfl
theorem tok137 : TIOk Try.prog 137 ⟨.int .i32, 1, 4, .int .i32 0, false⟩ := TIOk.int Try.underlying137 (by kernel_rfl : Try.prog.info? 137 = some Try.t137) rfl rfl rfl
theorem tok138 : TIOk Try.prog 138 ⟨.int .i32, 1, 4, .int .i32 0, false⟩ := TIOk.int Try.underlying138 (by kernel_rfl : Try.prog.info? 138 = some Try.t138) rfl rfl rfl

def tab : List (Nat × TI) := [
  (1, ⟨.func, 1, 8, .nilf, false⟩),
  (2, ⟨.int .i64, 1, 8, .int .i64 0, false⟩),
  (3, ⟨.int .i64, 1, 8, .int .i64 0, false⟩),
  (4, ⟨.bool, 1, 1, .bool false, false⟩),
  (5, ⟨.int .u8, 1, 1, .int .u8 0, false⟩),
  (6, ⟨.int .u8, 1, 1, .int .u8 0, false⟩),
  (9, ⟨.str, 1, 16, .str ⟨#[]⟩, false⟩),
  (10, ⟨.str, 1, 16, .str ⟨#[]⟩, false⟩),
  (11, ⟨.str, 1, 16, .str ⟨#[]⟩, false⟩),
  (12, ⟨.int .u64, 1, 8, .int .u64 0, false⟩),
  (21, ⟨.int .i32, 1, 4, .int .i32 0, false⟩),
  (22, ⟨.slice 75, 1, 24, .nils, false⟩),
  (23, ⟨.func, 1, 8, .nilf, false⟩),
  (24, ⟨.func, 1, 8, .nilf, false⟩),
  (25, ⟨.slice 73, 1, 24, .nils, false⟩),
  (26, ⟨.func, 1, 8, .nilf, false⟩),
  (27, ⟨.func, 1, 8, .nilf, false⟩),
  (28, ⟨.slice 78, 1, 24, .nils, false⟩),
  (29, ⟨.func, 1, 8, .nilf, false⟩),
  (30, ⟨.func, 1, 8, .nilf, false⟩),
  (31, ⟨.slice 38, 1, 24, .nils, false⟩),
  (32, ⟨.func, 1, 8, .nilf, false⟩),
  (33, ⟨.func, 1, 8, .nilf, false⟩),
  (34, ⟨.func, 1, 8, .nilf, false⟩),
  (35, ⟨.func, 1, 8, .nilf, false⟩),
  (36, ⟨.func, 1, 8, .nilf, false⟩),
  (37, ⟨.slice 2, 1, 24, .nils, false⟩),
  (38, ⟨.slice 81, 1, 24, .nils, false⟩),
  (39, ⟨.struct [(0, 2), (1, 38), (2, 37)], 3, 56, .agg [.int .i64 0, .nils, .nils], false⟩),
  (40, ⟨.struct [(0, 2), (1, 38), (2, 37)], 3, 56, .agg [.int .i64 0, .nils, .nils], false⟩),
  (41, ⟨.func, 1, 8, .nilf, false⟩),
  (42, ⟨.func, 1, 8, .nilf, false⟩),
  (43, ⟨.func, 1, 8, .nilf, false⟩),
  (44, ⟨.func, 1, 8, .nilf, false⟩),
  (45, ⟨.func, 1, 8, .nilf, false⟩),
  (46, ⟨.func, 1, 8, .nilf, false⟩),
  (47, ⟨.func, 1, 8, .nilf, false⟩),
  (48, ⟨.func, 1, 8, .nilf, false⟩),
  (50, ⟨.struct [(0, 2), (1, 37)], 2, 32, .agg [.int .i64 0, .nils], false⟩),
  (51, ⟨.func, 1, 8, .nilf, false⟩),
  (52, ⟨.func, 1, 8, .nilf, false⟩),
  (53, ⟨.func, 1, 8, .nilf, false⟩),
  (54, ⟨.func, 1, 8, .nilf, false⟩),
  (55, ⟨.slice 113, 1, 24, .nils, false⟩),
  (56, ⟨.slice 116, 1, 24, .nils, false⟩),
  (57, ⟨.struct [(0, 55), (1, 56)], 2, 48, .agg [.nils, .nils], false⟩),
  (58, ⟨.struct [(0, 55), (1, 56)], 2, 48, .agg [.nils, .nils], false⟩),
  (59, ⟨.func, 1, 8, .nilf, false⟩),
  (61, ⟨.struct [(0, 2), (1, 55)], 2, 32, .agg [.int .i64 0, .nils], false⟩),
  (62, ⟨.func, 1, 8, .nilf, false⟩),
  (63, ⟨.slice 117, 1, 24, .nils, false⟩),
  (64, ⟨.struct [(0, 55), (1, 63)], 2, 48, .agg [.nils, .nils], false⟩),
  (65, ⟨.struct [(0, 55), (1, 63)], 2, 48, .agg [.nils, .nils], false⟩),
  (66, ⟨.func, 1, 8, .nilf, false⟩),
  (67, ⟨.func, 1, 8, .nilf, false⟩),
  (68, ⟨.func, 1, 8, .nilf, false⟩),
  (69, ⟨.func, 1, 8, .nilf, false⟩),
  (70, ⟨.func, 1, 8, .nilf, false⟩),
  (71, ⟨.func, 1, 8, .nilf, false⟩),
  (73, ⟨.struct [(0, 2), (1, 2)], 2, 16, .agg [.int .i64 0, .int .i64 0], true⟩),
  (74, ⟨.func, 1, 8, .nilf, false⟩),
  (75, ⟨.struct [(0, 2), (1, 2)], 2, 16, .agg [.int .i64 0, .int .i64 0], true⟩),
  (76, ⟨.func, 1, 8, .nilf, false⟩),
  (77, ⟨.func, 1, 8, .nilf, false⟩),
  (78, ⟨.slice 107, 1, 24, .nils, false⟩),
  (79, ⟨.func, 1, 8, .nilf, false⟩),
  (81, ⟨.struct [(0, 2), (1, 2), (2, 2), (3, 2)], 4, 32, .agg [.int .i64 0, .int .i64 0, .int .i64 0, .int .i64 0], true⟩),
  (82, ⟨.func, 1, 8, .nilf, false⟩),
  (83, ⟨.func, 1, 8, .nilf, false⟩),
  (84, ⟨.func, 1, 8, .nilf, false⟩),
  (85, ⟨.func, 1, 8, .nilf, false⟩),
  (86, ⟨.func, 1, 8, .nilf, false⟩),
  (87, ⟨.func, 1, 8, .nilf, false⟩),
  (88, ⟨.func, 1, 8, .nilf, false⟩),
  (89, ⟨.slice 3, 1, 24, .nils, false⟩),
  (90, ⟨.func, 1, 8, .nilf, false⟩),
  (91, ⟨.func, 1, 8, .nilf, false⟩),
  (92, ⟨.func, 1, 8, .nilf, false⟩),
  (93, ⟨.func, 1, 8, .nilf, false⟩),
  (94, ⟨.func, 1, 8, .nilf, false⟩),
  (95, ⟨.func, 1, 8, .nilf, false⟩),
  (96, ⟨.func, 1, 8, .nilf, false⟩),
  (97, ⟨.func, 1, 8, .nilf, false⟩),
  (99, ⟨.func, 1, 8, .nilf, false⟩),
  (100, ⟨.func, 1, 8, .nilf, false⟩),
  (101, ⟨.func, 1, 8, .nilf, false⟩),
  (102, ⟨.func, 1, 8, .nilf, false⟩),
  (103, ⟨.func, 1, 8, .nilf, false⟩),
  (104, ⟨.func, 1, 8, .nilf, false⟩),
  (105, ⟨.func, 1, 8, .nilf, false⟩),
  (106, ⟨.func, 1, 8, .nilf, false⟩),
  (107, ⟨.struct [(0, 2), (1, 2), (2, 2), (3, 2)], 4, 32, .agg [.int .i64 0, .int .i64 0, .int .i64 0, .int .i64 0], true⟩),
  (108, ⟨.func, 1, 8, .nilf, false⟩),
  (109, ⟨.func, 1, 8, .nilf, false⟩),
  (110, ⟨.func, 1, 8, .nilf, false⟩),
  (111, ⟨.func, 1, 8, .nilf, false⟩),
  (112, ⟨.func, 1, 8, .nilf, false⟩),
  (113, ⟨.slice 5, 1, 24, .nils, false⟩),
  (114, ⟨.func, 1, 8, .nilf, false⟩),
  (116, ⟨.struct [(0, 2), (1, 2), (2, 113)], 3, 40, .agg [.int .i64 0, .int .i64 0, .nils], false⟩),
  (117, ⟨.struct [(0, 2), (1, 2), (2, 113)], 3, 40, .agg [.int .i64 0, .int .i64 0, .nils], false⟩),
  (118, ⟨.func, 1, 8, .nilf, false⟩),
  (119, ⟨.func, 1, 8, .nilf, false⟩),
  (120, ⟨.func, 1, 8, .nilf, false⟩),
  (121, ⟨.func, 1, 8, .nilf, false⟩),
  (122, ⟨.func, 1, 8, .nilf, false⟩),
  (123, ⟨.func, 1, 8, .nilf, false⟩),
  (124, ⟨.func, 1, 8, .nilf, false⟩),
  (125, ⟨.func, 1, 8, .nilf, false⟩),
  (131, ⟨.func, 1, 8, .nilf, false⟩),
  (132, ⟨.int .u32, 1, 4, .int .u32 0, false⟩),
  (133, ⟨.int .u8, 1, 1, .int .u8 0, false⟩),
  (134, ⟨.int .u8, 1, 1, .int .u8 0, false⟩),
  (135, ⟨.func, 1, 8, .nilf, false⟩),
  (137, ⟨.int .i32, 1, 4, .int .i32 0, false⟩),
  (138, ⟨.int .i32, 1, 4, .int .i32 0, false⟩)]

def T : TE := lookT tab

theorem hT : TEOk Try.prog T := TEOk.of_tab tab (by
  intro p hp
  simp only [tab, List.mem_cons, List.not_mem_nil, or_false] at hp
  rcases hp with rfl | rfl | rfl | rfl | rfl | rfl | rfl | rfl | rfl | rfl | rfl | rfl | rfl | rfl | rfl | rfl | rfl | rfl | rfl | rfl | rfl | rfl | rfl | rfl | rfl | rfl | rfl | rfl | rfl | rfl | rfl | rfl | rfl | rfl | rfl | rfl | rfl | rfl | rfl | rfl | rfl | rfl | rfl | rfl | rfl | rfl | rfl | rfl | rfl | rfl | rfl | rfl | rfl | rfl | rfl | rfl | rfl | rfl | rfl | rfl | rfl | rfl | rfl | rfl | rfl | rfl | rfl | rfl | rfl | rfl | rfl | rfl | rfl | rfl | rfl | rfl | rfl | rfl | rfl | rfl | rfl | rfl | rfl | rfl | rfl | rfl | rfl | rfl | rfl | rfl | rfl | rfl | rfl | rfl | rfl | rfl | rfl | rfl | rfl | rfl | rfl | rfl | rfl | rfl | rfl | rfl | rfl | rfl | rfl | rfl | rfl | rfl | rfl | rfl | rfl | rfl
  · exact tok1
  · exact tok2
  · exact tok3
  · exact tok4
  · exact tok5
  · exact tok6
  · exact tok9
  · exact tok10
  · exact tok11
  · exact tok12
  · exact tok21
  · exact tok22
  · exact tok23
  · exact tok24
  · exact tok25
  · exact tok26
  · exact tok27
  · exact tok28
  · exact tok29
  · exact tok30
  · exact tok31
  · exact tok32
  · exact tok33
  · exact tok34
  · exact tok35
  · exact tok36
  · exact tok37
  · exact tok38
  · exact tok39
  · exact tok40
  · exact tok41
  · exact tok42
  · exact tok43
  · exact tok44
  · exact tok45
  · exact tok46
  · exact tok47
  · exact tok48
  · exact tok50
  · exact tok51
  · exact tok52
  · exact tok53
  · exact tok54
  · exact tok55
  · exact tok56
  · exact tok57
  · exact tok58
  · exact tok59
  · exact tok61
  · exact tok62
  · exact tok63
  · exact tok64
  · exact tok65
  · exact tok66
  · exact tok67
  · exact tok68
  · exact tok69
  · exact tok70
  · exact tok71
  · exact tok73
  · exact tok74
  · exact tok75
  · exact tok76
  · exact tok77
  · exact tok78
  · exact tok79
  · exact tok81
  · exact tok82
  · exact tok83
  · exact tok84
  · exact tok85
  · exact tok86
  · exact tok87
  · exact tok88
  · exact tok89
  · exact tok90
  · exact tok91
  · exact tok92
  · exact tok93
  · exact tok94
  · exact tok95
  · exact tok96
  · exact tok97
  · exact tok99
  · exact tok100
  · exact tok101
  · exact tok102
  · exact tok103
  · exact tok104
  · exact tok105
  · exact tok106
  · exact tok107
  · exact tok108
  · exact tok109
  · exact tok110
  · exact tok111
  · exact tok112
  · exact tok113
  · exact tok114
  · exact tok116
  · exact tok117
  · exact tok118
  · exact tok119
  · exact tok120
  · exact tok121
  · exact tok122
  · exact tok123
  · exact tok124
  · exact tok125
  · exact tok131
  · exact tok132
  · exact tok133
  · exact tok134
  · exact tok135
  · exact tok137
  · exact tok138)

theorem T_1 : T 1 = ⟨.func, 1, 8, .nilf, false⟩ := rfl
theorem T_2 : T 2 = ⟨.int .i64, 1, 8, .int .i64 0, false⟩ := rfl
theorem T_3 : T 3 = ⟨.int .i64, 1, 8, .int .i64 0, false⟩ := rfl
theorem T_4 : T 4 = ⟨.bool, 1, 1, .bool false, false⟩ := rfl
theorem T_5 : T 5 = ⟨.int .u8, 1, 1, .int .u8 0, false⟩ := rfl
theorem T_6 : T 6 = ⟨.int .u8, 1, 1, .int .u8 0, false⟩ := rfl
theorem T_9 : T 9 = ⟨.str, 1, 16, .str ⟨#[]⟩, false⟩ := rfl
theorem T_10 : T 10 = ⟨.str, 1, 16, .str ⟨#[]⟩, false⟩ := rfl
theorem T_11 : T 11 = ⟨.str, 1, 16, .str ⟨#[]⟩, false⟩ := rfl
theorem T_12 : T 12 = ⟨.int .u64, 1, 8, .int .u64 0, false⟩ := rfl
theorem T_21 : T 21 = ⟨.int .i32, 1, 4, .int .i32 0, false⟩ := rfl
theorem T_22 : T 22 = ⟨.slice 75, 1, 24, .nils, false⟩ := rfl
theorem T_23 : T 23 = ⟨.func, 1, 8, .nilf, false⟩ := rfl
theorem T_24 : T 24 = ⟨.func, 1, 8, .nilf, false⟩ := rfl
theorem T_25 : T 25 = ⟨.slice 73, 1, 24, .nils, false⟩ := rfl
theorem T_26 : T 26 = ⟨.func, 1, 8, .nilf, false⟩ := rfl
theorem T_27 : T 27 = ⟨.func, 1, 8, .nilf, false⟩ := rfl
theorem T_28 : T 28 = ⟨.slice 78, 1, 24, .nils, false⟩ := rfl
theorem T_29 : T 29 = ⟨.func, 1, 8, .nilf, false⟩ := rfl
theorem T_30 : T 30 = ⟨.func, 1, 8, .nilf, false⟩ := rfl
theorem T_31 : T 31 = ⟨.slice 38, 1, 24, .nils, false⟩ := rfl
theorem T_32 : T 32 = ⟨.func, 1, 8, .nilf, false⟩ := rfl
theorem T_33 : T 33 = ⟨.func, 1, 8, .nilf, false⟩ := rfl
theorem T_34 : T 34 = ⟨.func, 1, 8, .nilf, false⟩ := rfl
theorem T_35 : T 35 = ⟨.func, 1, 8, .nilf, false⟩ := rfl
theorem T_36 : T 36 = ⟨.func, 1, 8, .nilf, false⟩ := rfl
theorem T_37 : T 37 = ⟨.slice 2, 1, 24, .nils, false⟩ := rfl
theorem T_38 : T 38 = ⟨.slice 81, 1, 24, .nils, false⟩ := rfl
theorem T_39 : T 39 = ⟨.struct [(0, 2), (1, 38), (2, 37)], 3, 56, .agg [.int .i64 0, .nils, .nils], false⟩ := rfl
theorem T_40 : T 40 = ⟨.struct [(0, 2), (1, 38), (2, 37)], 3, 56, .agg [.int .i64 0, .nils, .nils], false⟩ := rfl
theorem T_41 : T 41 = ⟨.func, 1, 8, .nilf, false⟩ := rfl
theorem T_42 : T 42 = ⟨.func, 1, 8, .nilf, false⟩ := rfl
theorem T_43 : T 43 = ⟨.func, 1, 8, .nilf, false⟩ := rfl
theorem T_44 : T 44 = ⟨.func, 1, 8, .nilf, false⟩ := rfl
theorem T_45 : T 45 = ⟨.func, 1, 8, .nilf, false⟩ := rfl
theorem T_46 : T 46 = ⟨.func, 1, 8, .nilf, false⟩ := rfl
theorem T_47 : T 47 = ⟨.func, 1, 8, .nilf, false⟩ := rfl
theorem T_48 : T 48 = ⟨.func, 1, 8, .nilf, false⟩ := rfl
theorem T_50 : T 50 = ⟨.struct [(0, 2), (1, 37)], 2, 32, .agg [.int .i64 0, .nils], false⟩ := rfl
theorem T_51 : T 51 = ⟨.func, 1, 8, .nilf, false⟩ := rfl
theorem T_52 : T 52 = ⟨.func, 1, 8, .nilf, false⟩ := rfl
theorem T_53 : T 53 = ⟨.func, 1, 8, .nilf, false⟩ := rfl
theorem T_54 : T 54 = ⟨.func, 1, 8, .nilf, false⟩ := rfl
theorem T_55 : T 55 = ⟨.slice 113, 1, 24, .nils, false⟩ := rfl
theorem T_56 : T 56 = ⟨.slice 116, 1, 24, .nils, false⟩ := rfl
theorem T_57 : T 57 = ⟨.struct [(0, 55), (1, 56)], 2, 48, .agg [.nils, .nils], false⟩ := rfl
theorem T_58 : T 58 = ⟨.struct [(0, 55), (1, 56)], 2, 48, .agg [.nils, .nils], false⟩ := rfl
theorem T_59 : T 59 = ⟨.func, 1, 8, .nilf, false⟩ := rfl
theorem T_61 : T 61 = ⟨.struct [(0, 2), (1, 55)], 2, 32, .agg [.int .i64 0, .nils], false⟩ := rfl
theorem T_62 : T 62 = ⟨.func, 1, 8, .nilf, false⟩ := rfl
theorem T_63 : T 63 = ⟨.slice 117, 1, 24, .nils, false⟩ := rfl
theorem T_64 : T 64 = ⟨.struct [(0, 55), (1, 63)], 2, 48, .agg [.nils, .nils], false⟩ := rfl
theorem T_65 : T 65 = ⟨.struct [(0, 55), (1, 63)], 2, 48, .agg [.nils, .nils], false⟩ := rfl
theorem T_66 : T 66 = ⟨.func, 1, 8, .nilf, false⟩ := rfl
theorem T_67 : T 67 = ⟨.func, 1, 8, .nilf, false⟩ := rfl
theorem T_68 : T 68 = ⟨.func, 1, 8, .nilf, false⟩ := rfl
theorem T_69 : T 69 = ⟨.func, 1, 8, .nilf, false⟩ := rfl
theorem T_70 : T 70 = ⟨.func, 1, 8, .nilf, false⟩ := rfl
theorem T_71 : T 71 = ⟨.func, 1, 8, .nilf, false⟩ := rfl
theorem T_73 : T 73 = ⟨.struct [(0, 2), (1, 2)], 2, 16, .agg [.int .i64 0, .int .i64 0], true⟩ := rfl
theorem T_74 : T 74 = ⟨.func, 1, 8, .nilf, false⟩ := rfl
theorem T_75 : T 75 = ⟨.struct [(0, 2), (1, 2)], 2, 16, .agg [.int .i64 0, .int .i64 0], true⟩ := rfl
theorem T_76 : T 76 = ⟨.func, 1, 8, .nilf, false⟩ := rfl
theorem T_77 : T 77 = ⟨.func, 1, 8, .nilf, false⟩ := rfl
theorem T_78 : T 78 = ⟨.slice 107, 1, 24, .nils, false⟩ := rfl
theorem T_79 : T 79 = ⟨.func, 1, 8, .nilf, false⟩ := rfl
theorem T_81 : T 81 = ⟨.struct [(0, 2), (1, 2), (2, 2), (3, 2)], 4, 32, .agg [.int .i64 0, .int .i64 0, .int .i64 0, .int .i64 0], true⟩ := rfl
theorem T_82 : T 82 = ⟨.func, 1, 8, .nilf, false⟩ := rfl
theorem T_83 : T 83 = ⟨.func, 1, 8, .nilf, false⟩ := rfl
theorem T_84 : T 84 = ⟨.func, 1, 8, .nilf, false⟩ := rfl
theorem T_85 : T 85 = ⟨.func, 1, 8, .nilf, false⟩ := rfl
theorem T_86 : T 86 = ⟨.func, 1, 8, .nilf, false⟩ := rfl
theorem T_87 : T 87 = ⟨.func, 1, 8, .nilf, false⟩ := rfl
theorem T_88 : T 88 = ⟨.func, 1, 8, .nilf, false⟩ := rfl
theorem T_89 : T 89 = ⟨.slice 3, 1, 24, .nils, false⟩ := rfl
theorem T_90 : T 90 = ⟨.func, 1, 8, .nilf, false⟩ := rfl
theorem T_91 : T 91 = ⟨.func, 1, 8, .nilf, false⟩ := rfl
theorem T_92 : T 92 = ⟨.func, 1, 8, .nilf, false⟩ := rfl
theorem T_93 : T 93 = ⟨.func, 1, 8, .nilf, false⟩ := rfl
theorem T_94 : T 94 = ⟨.func, 1, 8, .nilf, false⟩ := rfl
theorem T_95 : T 95 = ⟨.func, 1, 8, .nilf, false⟩ := rfl
theorem T_96 : T 96 = ⟨.func, 1, 8, .nilf, false⟩ := rfl
theorem T_97 : T 97 = ⟨.func, 1, 8, .nilf, false⟩ := rfl
theorem T_99 : T 99 = ⟨.func, 1, 8, .nilf, false⟩ := rfl
theorem T_100 : T 100 = ⟨.func, 1, 8, .nilf, false⟩ := rfl
theorem T_101 : T 101 = ⟨.func, 1, 8, .nilf, false⟩ := rfl
theorem T_102 : T 102 = ⟨.func, 1, 8, .nilf, false⟩ := rfl
theorem T_103 : T 103 = ⟨.func, 1, 8, .nilf, false⟩ := rfl
theorem T_104 : T 104 = ⟨.func, 1, 8, .nilf, false⟩ := rfl
theorem T_105 : T 105 = ⟨.func, 1, 8, .nilf, false⟩ := rfl
theorem T_106 : T 106 = ⟨.func, 1, 8, .nilf, false⟩ := rfl
theorem T_107 : T 107 = ⟨.struct [(0, 2), (1, 2), (2, 2), (3, 2)], 4, 32, .agg [.int .i64 0, .int .i64 0, .int .i64 0, .int .i64 0], true⟩ := rfl
theorem T_108 : T 108 = ⟨.func, 1, 8, .nilf, false⟩ := rfl
theorem T_109 : T 109 = ⟨.func, 1, 8, .nilf, false⟩ := rfl
theorem T_110 : T 110 = ⟨.func, 1, 8, .nilf, false⟩ := rfl
theorem T_111 : T 111 = ⟨.func, 1, 8, .nilf, false⟩ := rfl
theorem T_112 : T 112 = ⟨.func, 1, 8, .nilf, false⟩ := rfl
theorem T_113 : T 113 = ⟨.slice 5, 1, 24, .nils, false⟩ := rfl
theorem T_114 : T 114 = ⟨.func, 1, 8, .nilf, false⟩ := rfl
theorem T_116 : T 116 = ⟨.struct [(0, 2), (1, 2), (2, 113)], 3, 40, .agg [.int .i64 0, .int .i64 0, .nils], false⟩ := rfl
theorem T_117 : T 117 = ⟨.struct [(0, 2), (1, 2), (2, 113)], 3, 40, .agg [.int .i64 0, .int .i64 0, .nils], false⟩ := rfl
theorem T_118 : T 118 = ⟨.func, 1, 8, .nilf, false⟩ := rfl
theorem T_119 : T 119 = ⟨.func, 1, 8, .nilf, false⟩ := rfl
theorem T_120 : T 120 = ⟨.func, 1, 8, .nilf, false⟩ := rfl
theorem T_121 : T 121 = ⟨.func, 1, 8, .nilf, false⟩ := rfl
theorem T_122 : T 122 = ⟨.func, 1, 8, .nilf, false⟩ := rfl
theorem T_123 : T 123 = ⟨.func, 1, 8, .nilf, false⟩ := rfl
theorem T_124 : T 124 = ⟨.func, 1, 8, .nilf, false⟩ := rfl
theorem T_125 : T 125 = ⟨.func, 1, 8, .nilf, false⟩ := rfl
theorem T_131 : T 131 = ⟨.func, 1, 8, .nilf, false⟩ := rfl
theorem T_132 : T 132 = ⟨.int .u32, 1, 4, .int .u32 0, false⟩ := rfl
theorem T_133 : T 133 = ⟨.int .u8, 1, 1, .int .u8 0, false⟩ := rfl
theorem T_134 : T 134 = ⟨.int .u8, 1, 1, .int .u8 0, false⟩ := rfl
theorem T_135 : T 135 = ⟨.func, 1, 8, .nilf, false⟩ := rfl
theorem T_137 : T 137 = ⟨.int .i32, 1, 4, .int .i32 0, false⟩ := rfl
theorem T_138 : T 138 = ⟨.int .i32, 1, 4, .int .i32 0, false⟩ := rfl
theorem pt_1 (off : Nat) (e : AV) : part T 1 off e = e.cells[off]? := rfl
theorem pt_2 (off : Nat) (e : AV) : part T 2 off e = e.cells[off]? := rfl
theorem pt_3 (off : Nat) (e : AV) : part T 3 off e = e.cells[off]? := rfl
theorem pt_4 (off : Nat) (e : AV) : part T 4 off e = e.cells[off]? := rfl
theorem pt_5 (off : Nat) (e : AV) : part T 5 off e = e.cells[off]? := rfl
theorem pt_6 (off : Nat) (e : AV) : part T 6 off e = e.cells[off]? := rfl
theorem pt_9 (off : Nat) (e : AV) : part T 9 off e = e.cells[off]? := rfl
theorem pt_10 (off : Nat) (e : AV) : part T 10 off e = e.cells[off]? := rfl
theorem pt_11 (off : Nat) (e : AV) : part T 11 off e = e.cells[off]? := rfl
theorem pt_12 (off : Nat) (e : AV) : part T 12 off e = e.cells[off]? := rfl
theorem pt_21 (off : Nat) (e : AV) : part T 21 off e = e.cells[off]? := rfl
theorem pt_22 (off : Nat) (e : AV) : part T 22 off e = e.cells[off]? := rfl
theorem pt_23 (off : Nat) (e : AV) : part T 23 off e = e.cells[off]? := rfl
theorem pt_24 (off : Nat) (e : AV) : part T 24 off e = e.cells[off]? := rfl
theorem pt_25 (off : Nat) (e : AV) : part T 25 off e = e.cells[off]? := rfl
theorem pt_26 (off : Nat) (e : AV) : part T 26 off e = e.cells[off]? := rfl
theorem pt_27 (off : Nat) (e : AV) : part T 27 off e = e.cells[off]? := rfl
theorem pt_28 (off : Nat) (e : AV) : part T 28 off e = e.cells[off]? := rfl
theorem pt_29 (off : Nat) (e : AV) : part T 29 off e = e.cells[off]? := rfl
theorem pt_30 (off : Nat) (e : AV) : part T 30 off e = e.cells[off]? := rfl
theorem pt_31 (off : Nat) (e : AV) : part T 31 off e = e.cells[off]? := rfl
theorem pt_32 (off : Nat) (e : AV) : part T 32 off e = e.cells[off]? := rfl
theorem pt_33 (off : Nat) (e : AV) : part T 33 off e = e.cells[off]? := rfl
theorem pt_34 (off : Nat) (e : AV) : part T 34 off e = e.cells[off]? := rfl
theorem pt_35 (off : Nat) (e : AV) : part T 35 off e = e.cells[off]? := rfl
theorem pt_36 (off : Nat) (e : AV) : part T 36 off e = e.cells[off]? := rfl
theorem pt_37 (off : Nat) (e : AV) : part T 37 off e = e.cells[off]? := rfl
theorem pt_38 (off : Nat) (e : AV) : part T 38 off e = e.cells[off]? := rfl
theorem pt_39 (off : Nat) (e : AV) : part T 39 off e = if off + (T 39).sz ≤ e.cells.length then some (.agg ((e.cells.drop off).take (T 39).sz)) else none := rfl
theorem pt_40 (off : Nat) (e : AV) : part T 40 off e = if off + (T 40).sz ≤ e.cells.length then some (.agg ((e.cells.drop off).take (T 40).sz)) else none := rfl
theorem pt_41 (off : Nat) (e : AV) : part T 41 off e = e.cells[off]? := rfl
theorem pt_42 (off : Nat) (e : AV) : part T 42 off e = e.cells[off]? := rfl
theorem pt_43 (off : Nat) (e : AV) : part T 43 off e = e.cells[off]? := rfl
theorem pt_44 (off : Nat) (e : AV) : part T 44 off e = e.cells[off]? := rfl
theorem pt_45 (off : Nat) (e : AV) : part T 45 off e = e.cells[off]? := rfl
theorem pt_46 (off : Nat) (e : AV) : part T 46 off e = e.cells[off]? := rfl
theorem pt_47 (off : Nat) (e : AV) : part T 47 off e = e.cells[off]? := rfl
theorem pt_48 (off : Nat) (e : AV) : part T 48 off e = e.cells[off]? := rfl
theorem pt_50 (off : Nat) (e : AV) : part T 50 off e = if off + (T 50).sz ≤ e.cells.length then some (.agg ((e.cells.drop off).take (T 50).sz)) else none := rfl
theorem pt_51 (off : Nat) (e : AV) : part T 51 off e = e.cells[off]? := rfl
theorem pt_52 (off : Nat) (e : AV) : part T 52 off e = e.cells[off]? := rfl
theorem pt_53 (off : Nat) (e : AV) : part T 53 off e = e.cells[off]? := rfl
theorem pt_54 (off : Nat) (e : AV) : part T 54 off e = e.cells[off]? := rfl
theorem pt_55 (off : Nat) (e : AV) : part T 55 off e = e.cells[off]? := rfl
theorem pt_56 (off : Nat) (e : AV) : part T 56 off e = e.cells[off]? := rfl
theorem pt_57 (off : Nat) (e : AV) : part T 57 off e = if off + (T 57).sz ≤ e.cells.length then some (.agg ((e.cells.drop off).take (T 57).sz)) else none := rfl
theorem pt_58 (off : Nat) (e : AV) : part T 58 off e = if off + (T 58).sz ≤ e.cells.length then some (.agg ((e.cells.drop off).take (T 58).sz)) else none := rfl
theorem pt_59 (off : Nat) (e : AV) : part T 59 off e = e.cells[off]? := rfl
theorem pt_61 (off : Nat) (e : AV) : part T 61 off e = if off + (T 61).sz ≤ e.cells.length then some (.agg ((e.cells.drop off).take (T 61).sz)) else none := rfl
theorem pt_62 (off : Nat) (e : AV) : part T 62 off e = e.cells[off]? := rfl
theorem pt_63 (off : Nat) (e : AV) : part T 63 off e = e.cells[off]? := rfl
theorem pt_64 (off : Nat) (e : AV) : part T 64 off e = if off + (T 64).sz ≤ e.cells.length then some (.agg ((e.cells.drop off).take (T 64).sz)) else none := rfl
theorem pt_65 (off : Nat) (e : AV) : part T 65 off e = if off + (T 65).sz ≤ e.cells.length then some (.agg ((e.cells.drop off).take (T 65).sz)) else none := rfl
theorem pt_66 (off : Nat) (e : AV) : part T 66 off e = e.cells[off]? := rfl
theorem pt_67 (off : Nat) (e : AV) : part T 67 off e = e.cells[off]? := rfl
theorem pt_68 (off : Nat) (e : AV) : part T 68 off e = e.cells[off]? := rfl
theorem pt_69 (off : Nat) (e : AV) : part T 69 off e = e.cells[off]? := rfl
theorem pt_70 (off : Nat) (e : AV) : part T 70 off e = e.cells[off]? := rfl
theorem pt_71 (off : Nat) (e : AV) : part T 71 off e = e.cells[off]? := rfl
theorem pt_73 (off : Nat) (e : AV) : part T 73 off e = if off + (T 73).sz ≤ e.cells.length then some (.agg ((e.cells.drop off).take (T 73).sz)) else none := rfl
theorem pt_74 (off : Nat) (e : AV) : part T 74 off e = e.cells[off]? := rfl
theorem pt_75 (off : Nat) (e : AV) : part T 75 off e = if off + (T 75).sz ≤ e.cells.length then some (.agg ((e.cells.drop off).take (T 75).sz)) else none := rfl
theorem pt_76 (off : Nat) (e : AV) : part T 76 off e = e.cells[off]? := rfl
theorem pt_77 (off : Nat) (e : AV) : part T 77 off e = e.cells[off]? := rfl
theorem pt_78 (off : Nat) (e : AV) : part T 78 off e = e.cells[off]? := rfl
theorem pt_79 (off : Nat) (e : AV) : part T 79 off e = e.cells[off]? := rfl
theorem pt_81 (off : Nat) (e : AV) : part T 81 off e = if off + (T 81).sz ≤ e.cells.length then some (.agg ((e.cells.drop off).take (T 81).sz)) else none := rfl
theorem pt_82 (off : Nat) (e : AV) : part T 82 off e = e.cells[off]? := rfl
theorem pt_83 (off : Nat) (e : AV) : part T 83 off e = e.cells[off]? := rfl
theorem pt_84 (off : Nat) (e : AV) : part T 84 off e = e.cells[off]? := rfl
theorem pt_85 (off : Nat) (e : AV) : part T 85 off e = e.cells[off]? := rfl
theorem pt_86 (off : Nat) (e : AV) : part T 86 off e = e.cells[off]? := rfl
theorem pt_87 (off : Nat) (e : AV) : part T 87 off e = e.cells[off]? := rfl
theorem pt_88 (off : Nat) (e : AV) : part T 88 off e = e.cells[off]? := rfl
theorem pt_89 (off : Nat) (e : AV) : part T 89 off e = e.cells[off]? := rfl
theorem pt_90 (off : Nat) (e : AV) : part T 90 off e = e.cells[off]? := rfl
theorem pt_91 (off : Nat) (e : AV) : part T 91 off e = e.cells[off]? := rfl
theorem pt_92 (off : Nat) (e : AV) : part T 92 off e = e.cells[off]? := rfl
theorem pt_93 (off : Nat) (e : AV) : part T 93 off e = e.cells[off]? := rfl
theorem pt_94 (off : Nat) (e : AV) : part T 94 off e = e.cells[off]? := rfl
theorem pt_95 (off : Nat) (e : AV) : part T 95 off e = e.cells[off]? := rfl
theorem pt_96 (off : Nat) (e : AV) : part T 96 off e = e.cells[off]? := rfl
theorem pt_97 (off : Nat) (e : AV) : part T 97 off e = e.cells[off]? := rfl
theorem pt_99 (off : Nat) (e : AV) : part T 99 off e = e.cells[off]? := rfl
theorem pt_100 (off : Nat) (e : AV) : part T 100 off e = e.cells[off]? := rfl
theorem pt_101 (off : Nat) (e : AV) : part T 101 off e = e.cells[off]? := rfl
theorem pt_102 (off : Nat) (e : AV) : part T 102 off e = e.cells[off]? := rfl
theorem pt_103 (off : Nat) (e : AV) : part T 103 off e = e.cells[off]? := rfl
theorem pt_104 (off : Nat) (e : AV) : part T 104 off e = e.cells[off]? := rfl
theorem pt_105 (off : Nat) (e : AV) : part T 105 off e = e.cells[off]? := rfl
theorem pt_106 (off : Nat) (e : AV) : part T 106 off e = e.cells[off]? := rfl
theorem pt_107 (off : Nat) (e : AV) : part T 107 off e = if off + (T 107).sz ≤ e.cells.length then some (.agg ((e.cells.drop off).take (T 107).sz)) else none := rfl
theorem pt_108 (off : Nat) (e : AV) : part T 108 off e = e.cells[off]? := rfl
theorem pt_109 (off : Nat) (e : AV) : part T 109 off e = e.cells[off]? := rfl
theorem pt_110 (off : Nat) (e : AV) : part T 110 off e = e.cells[off]? := rfl
theorem pt_111 (off : Nat) (e : AV) : part T 111 off e = e.cells[off]? := rfl
theorem pt_112 (off : Nat) (e : AV) : part T 112 off e = e.cells[off]? := rfl
theorem pt_113 (off : Nat) (e : AV) : part T 113 off e = e.cells[off]? := rfl
theorem pt_114 (off : Nat) (e : AV) : part T 114 off e = e.cells[off]? := rfl
theorem pt_116 (off : Nat) (e : AV) : part T 116 off e = if off + (T 116).sz ≤ e.cells.length then some (.agg ((e.cells.drop off).take (T 116).sz)) else none := rfl
theorem pt_117 (off : Nat) (e : AV) : part T 117 off e = if off + (T 117).sz ≤ e.cells.length then some (.agg ((e.cells.drop off).take (T 117).sz)) else none := rfl
theorem pt_118 (off : Nat) (e : AV) : part T 118 off e = e.cells[off]? := rfl
theorem pt_119 (off : Nat) (e : AV) : part T 119 off e = e.cells[off]? := rfl
theorem pt_120 (off : Nat) (e : AV) : part T 120 off e = e.cells[off]? := rfl
theorem pt_121 (off : Nat) (e : AV) : part T 121 off e = e.cells[off]? := rfl
theorem pt_122 (off : Nat) (e : AV) : part T 122 off e = e.cells[off]? := rfl
theorem pt_123 (off : Nat) (e : AV) : part T 123 off e = e.cells[off]? := rfl
theorem pt_124 (off : Nat) (e : AV) : part T 124 off e = e.cells[off]? := rfl
theorem pt_125 (off : Nat) (e : AV) : part T 125 off e = e.cells[off]? := rfl
theorem pt_131 (off : Nat) (e : AV) : part T 131 off e = e.cells[off]? := rfl
theorem pt_132 (off : Nat) (e : AV) : part T 132 off e = e.cells[off]? := rfl
theorem pt_133 (off : Nat) (e : AV) : part T 133 off e = e.cells[off]? := rfl
theorem pt_134 (off : Nat) (e : AV) : part T 134 off e = e.cells[off]? := rfl
theorem pt_135 (off : Nat) (e : AV) : part T 135 off e = e.cells[off]? := rfl
theorem pt_137 (off : Nat) (e : AV) : part T 137 off e = e.cells[off]? := rfl
theorem pt_138 (off : Nat) (e : AV) : part T 138 off e = e.cells[off]? := rfl

theorem hM : Try.prog.follows .mixedOrders = true := by kernel_rfl

end Go.Proofs.Ytplkjfnjdekgpaa
