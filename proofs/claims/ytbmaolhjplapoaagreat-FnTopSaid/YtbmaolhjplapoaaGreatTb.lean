/- The types of the program at hand. -/
import Derived.Test.YtbmaolhjplapoaaGreatRo
import Derived.Test.YtbmaolhjplapoaaGreatChecked
set_option linter.unusedVariables false
namespace Go.RR
open Go Go.Proofs
def TT : Tab := [(2, ⟨.int .i64, 1, 8⟩),
 (3, ⟨.int .i64, 1, 8⟩),
 (4, ⟨.bool, 1, 1⟩),
 (5, ⟨.int .u8, 1, 1⟩),
 (9, ⟨.str, 1, 16⟩),
 (12, ⟨.int .u64, 1, 8⟩),
 (15, ⟨.ptr 203, 1, 8⟩),
 (16, ⟨.ptr 206, 1, 8⟩),
 (17, ⟨.ptr 215, 1, 8⟩),
 (21, ⟨.int .i32, 1, 4⟩),
 (22, ⟨.slice 5, 1, 24⟩),
 (24, ⟨.int .i8, 1, 1⟩),
 (25, ⟨.array 144 5, 144, 144⟩),
 (26, ⟨.struct [(0, 24), (1, 24), (2, 25)], 146, 146⟩),
 (27, ⟨.struct [(0, 24), (1, 24), (2, 25)], 146, 146⟩),
 (29, ⟨.slice 32, 1, 24⟩),
 (32, ⟨.slice 2, 1, 24⟩),
 (34, ⟨.array 3 5, 3, 3⟩),
 (35, ⟨.array 3 5, 3, 3⟩),
 (36, ⟨.array 144 35, 432, 432⟩),
 (37, ⟨.struct [(0, 24), (1, 24), (2, 36)], 434, 434⟩),
 (38, ⟨.struct [(0, 24), (1, 24), (2, 36)], 434, 434⟩),
 (40, ⟨.slice 35, 1, 24⟩),
 (41, ⟨.slice 35, 1, 24⟩),
 (48, ⟨.slice 108, 1, 24⟩),
 (49, ⟨.slice 108, 1, 24⟩),
 (55, ⟨.slice 107, 1, 24⟩),
 (57, ⟨.slice 110, 1, 24⟩),
 (67, ⟨.ptr 119, 1, 8⟩),
 (72, ⟨.ptr 27, 1, 8⟩),
 (83, ⟨.ptr 38, 1, 8⟩),
 (104, ⟨.int .u16, 1, 2⟩),
 (105, ⟨.int .u64, 1, 8⟩),
 (106, ⟨.struct [(0, 24), (1, 104)], 2, 4⟩),
 (107, ⟨.struct [(0, 24), (1, 104)], 2, 4⟩),
 (108, ⟨.int .i16, 1, 2⟩),
 (109, ⟨.struct [(0, 24), (1, 108)], 2, 4⟩),
 (110, ⟨.struct [(0, 24), (1, 108)], 2, 4⟩),
 (117, ⟨.int .u64, 1, 8⟩),
 (118, ⟨.struct [(0, 22), (1, 3), (2, 117)], 3, 40⟩),
 (119, ⟨.struct [(0, 22), (1, 3), (2, 117)], 3, 40⟩),
 (120, ⟨.array 144 4, 144, 144⟩),
 (124, ⟨.ptr 120, 1, 8⟩),
 (133, ⟨.array 3 2, 3, 24⟩),
 (140, ⟨.ptr 144, 1, 8⟩),
 (141, ⟨.ptr 171, 1, 8⟩),
 (143, ⟨.struct [(0, 141), (1, 104), (2, 57), (3, 2), (4, 2), (5, 2), (6, 2), (7, 4)], 8, 80⟩),
 (144, ⟨.struct [(0, 141), (1, 104), (2, 57), (3, 2), (4, 2), (5, 2), (6, 2), (7, 4)], 8, 80⟩),
 (145, ⟨.ptr 147, 1, 8⟩),
 (146, ⟨.struct [(0, 55), (1, 2), (2, 2), (3, 2), (4, 57), (5, 2), (6, 4)], 7, 88⟩),
 (147, ⟨.struct [(0, 55), (1, 2), (2, 2), (3, 2), (4, 57), (5, 2), (6, 4)], 7, 88⟩),
 (154, ⟨.slice 3, 1, 24⟩),
 (170, ⟨.struct [(0, 55), (1, 57), (2, 32)], 3, 72⟩),
 (171, ⟨.struct [(0, 55), (1, 57), (2, 32)], 3, 72⟩),
 (175, ⟨.array 2 2, 2, 16⟩),
 (176, ⟨.array 4 175, 8, 64⟩),
 (182, ⟨.int .i64, 1, 8⟩),
 (190, ⟨.int .u32, 1, 4⟩),
 (192, ⟨.int .u64, 1, 8⟩),
 (196, ⟨.ptr 3, 1, 8⟩),
 (198, ⟨.ptr 192, 1, 8⟩),
 (204, ⟨.array 0 16, 0, 0⟩),
 (211, ⟨.ptr 5, 1, 8⟩)]
theorem ty2 : yt Tryz.prog TT 2 ⟨.int .i64, 1, 8⟩ := yd (f := Tryz.t2) (by kernel_rfl) rfl rfl (.v (.int .i64 0)) (by kernel_rfl) (by kernel_rfl) rfl Tryz.underlying2 rfl (yO rfl)
theorem ty3 : yt Tryz.prog TT 3 ⟨.int .i64, 1, 8⟩ := yd (f := Tryz.t3) (by kernel_rfl) rfl rfl (.v (.int .i64 0)) (by kernel_rfl) (by kernel_rfl) rfl Tryz.underlying3 rfl (yO rfl)
theorem ty4 : yt Tryz.prog TT 4 ⟨.bool, 1, 1⟩ := yd (f := Tryz.t4) (by kernel_rfl) rfl rfl (.v (.bool false)) (by kernel_rfl) (by kernel_rfl) rfl Tryz.underlying4 trivial (yO rfl)
theorem ty5 : yt Tryz.prog TT 5 ⟨.int .u8, 1, 1⟩ := yd (f := Tryz.t5) (by kernel_rfl) rfl rfl (.v (.int .u8 0)) (by kernel_rfl) (by kernel_rfl) rfl Tryz.underlying5 rfl (yO rfl)
theorem ty9 : yt Tryz.prog TT 9 ⟨.str, 1, 16⟩ := yd (f := Tryz.t9) (by kernel_rfl) rfl rfl (.v (.string (⟨#[]⟩ : ByteArray))) (by kernel_rfl) (by kernel_rfl) rfl Tryz.underlying9 trivial (yO rfl)
theorem zV4 : yt Tryz.prog TT 12 ⟨.int .u64, 1, 8⟩ := yd (f := Tryz.t12) (by kernel_rfl) rfl rfl (.v (.int .u64 0)) (by kernel_rfl) (by kernel_rfl) rfl Tryz.underlying12 rfl (yO rfl)
theorem zV7 : yt Tryz.prog TT 15 ⟨.ptr 203, 1, 8⟩ := yd (f := Tryz.t15) (by kernel_rfl) rfl rfl (.v (.pointer none)) (by kernel_rfl) (by kernel_rfl) rfl Tryz.underlying15 rfl (yO rfl)
theorem zV0 : yt Tryz.prog TT 16 ⟨.ptr 206, 1, 8⟩ := yd (f := Tryz.t16) (by kernel_rfl) rfl rfl (.v (.pointer none)) (by kernel_rfl) (by kernel_rfl) rfl Tryz.underlying16 rfl (yO rfl)
theorem zVV : yt Tryz.prog TT 17 ⟨.ptr 215, 1, 8⟩ := yd (f := Tryz.t17) (by kernel_rfl) rfl rfl (.v (.pointer none)) (by kernel_rfl) (by kernel_rfl) rfl Tryz.underlying17 rfl (yO rfl)
theorem zVN : yt Tryz.prog TT 21 ⟨.int .i32, 1, 4⟩ := yd (f := Tryz.t21) (by kernel_rfl) rfl rfl (.v (.int .i32 0)) (by kernel_rfl) (by kernel_rfl) rfl Tryz.underlying21 rfl (yO rfl)
theorem zVY : yt Tryz.prog TT 22 ⟨.slice 5, 1, 24⟩ := yd (f := Tryz.t22) (by kernel_rfl) rfl rfl (.nil (.one (.i .u8))) (by kernel_rfl) (by kernel_rfl) rfl Tryz.underlying22 rfl (yO rfl)
theorem zVK : yt Tryz.prog TT 24 ⟨.int .i8, 1, 1⟩ := yd (f := Tryz.t24) (by kernel_rfl) rfl rfl (.v (.int .i8 0)) (by kernel_rfl) (by kernel_rfl) rfl Tryz.underlying24 rfl (yO rfl)
theorem zV3 : yt Tryz.prog TT 25 ⟨.array 144 5, 144, 144⟩ := yd (f := Tryz.t25) (by kernel_rfl) rfl rfl (.fa 144 .u8 zF) (by kernel_rfl) (by kernel_rfl) rfl Tryz.underlying25 ⟨rfl, rfl⟩ (Zu (by kernel_rfl) (by kernel_rfl) (fun ds h => by cases (Tryz.underlying25.symm.trans h) <;> rfl))
theorem zVH : yt Tryz.prog TT 26 ⟨.struct [(0, 24), (1, 24), (2, 25)], 146, 146⟩ := yd (f := Tryz.t26) (by kernel_rfl) rfl rfl (.rc [.v (.int .i8 0), .v (.int .i8 0), .fa 144 .u8 zF]) (by kernel_rfl) (by kernel_rfl) rfl Tryz.underlying26 rfl (Zu (by kernel_rfl) (by kernel_rfl) (fun ds h => by cases (Tryz.underlying26.symm.trans h) <;> rfl))
theorem zVG : yt Tryz.prog TT 27 ⟨.struct [(0, 24), (1, 24), (2, 25)], 146, 146⟩ := yd (f := Tryz.t27) (by kernel_rfl) rfl rfl (.rc [.v (.int .i8 0), .v (.int .i8 0), .fa 144 .u8 zF]) (by kernel_rfl) (by kernel_rfl) rfl Tryz.underlying27 rfl (Zu (by kernel_rfl) (by kernel_rfl) (fun ds h => by cases (Tryz.underlying27.symm.trans h) <;> rfl))
theorem zVO : yt Tryz.prog TT 29 ⟨.slice 32, 1, 24⟩ := yd (f := Tryz.t29) (by kernel_rfl) rfl rfl (.nil (.one (.ls .i64))) (by kernel_rfl) (by kernel_rfl) rfl Tryz.underlying29 rfl (yO rfl)
theorem zVI : yt Tryz.prog TT 32 ⟨.slice 2, 1, 24⟩ := yd (f := Tryz.t32) (by kernel_rfl) rfl rfl (.nil (.one (.i .i64))) (by kernel_rfl) (by kernel_rfl) rfl Tryz.underlying32 rfl (yO rfl)
theorem zVM : yt Tryz.prog TT 34 ⟨.array 3 5, 3, 3⟩ := yd (f := Tryz.t34) (by kernel_rfl) rfl rfl (.fa 3 .u8 zF) (by kernel_rfl) (by kernel_rfl) rfl Tryz.underlying34 ⟨rfl, rfl⟩ (Zu (by kernel_rfl) (by kernel_rfl) (fun ds h => by cases (Tryz.underlying34.symm.trans h) <;> rfl))
theorem zVR : yt Tryz.prog TT 35 ⟨.array 3 5, 3, 3⟩ := yd (f := Tryz.t35) (by kernel_rfl) rfl rfl (.fa 3 .u8 zF) (by kernel_rfl) (by kernel_rfl) rfl Tryz.underlying35 ⟨rfl, rfl⟩ (Zu (by kernel_rfl) (by kernel_rfl) (fun ds h => by cases (Tryz.underlying35.symm.trans h) <;> rfl))
theorem zVS : yt Tryz.prog TT 36 ⟨.array 144 35, 432, 432⟩ := yd (f := Tryz.t36) (by kernel_rfl) rfl rfl (.fa2 144 3 .u8 zF2) (by kernel_rfl) (by kernel_rfl) rfl Tryz.underlying36 ⟨rfl, rfl⟩ (Zu (by kernel_rfl) (by kernel_rfl) (fun ds h => by cases (Tryz.underlying36.symm.trans h) <;> rfl))
theorem zV8 : yt Tryz.prog TT 37 ⟨.struct [(0, 24), (1, 24), (2, 36)], 434, 434⟩ := yd (f := Tryz.t37) (by kernel_rfl) rfl rfl (.rc [.v (.int .i8 0), .v (.int .i8 0), .fa2 144 3 .u8 zF2]) (by kernel_rfl) (by kernel_rfl) rfl Tryz.underlying37 rfl (Zu (by kernel_rfl) (by kernel_rfl) (fun ds h => by cases (Tryz.underlying37.symm.trans h) <;> rfl))
theorem zVT : yt Tryz.prog TT 38 ⟨.struct [(0, 24), (1, 24), (2, 36)], 434, 434⟩ := yd (f := Tryz.t38) (by kernel_rfl) rfl rfl (.rc [.v (.int .i8 0), .v (.int .i8 0), .fa2 144 3 .u8 zF2]) (by kernel_rfl) (by kernel_rfl) rfl Tryz.underlying38 rfl (Zu (by kernel_rfl) (by kernel_rfl) (fun ds h => by cases (Tryz.underlying38.symm.trans h) <;> rfl))
theorem zVZ : yt Tryz.prog TT 40 ⟨.slice 35, 1, 24⟩ := yd (f := Tryz.t40) (by kernel_rfl) rfl rfl (.nil (.one (.fa 3 .u8))) (by kernel_rfl) (by kernel_rfl) rfl Tryz.underlying40 rfl (yO rfl)
theorem zV1 : yt Tryz.prog TT 41 ⟨.slice 35, 1, 24⟩ := yd (f := Tryz.t41) (by kernel_rfl) rfl rfl (.nil (.one (.fa 3 .u8))) (by kernel_rfl) (by kernel_rfl) rfl Tryz.underlying41 rfl (yO rfl)
theorem zVW : yt Tryz.prog TT 48 ⟨.slice 108, 1, 24⟩ := yd (f := Tryz.t48) (by kernel_rfl) rfl rfl (.nil (.one (.i .i16))) (by kernel_rfl) (by kernel_rfl) rfl Tryz.underlying48 rfl (yO rfl)
theorem zVQ : yt Tryz.prog TT 49 ⟨.slice 108, 1, 24⟩ := yd (f := Tryz.t49) (by kernel_rfl) rfl rfl (.nil (.one (.i .i16))) (by kernel_rfl) (by kernel_rfl) rfl Tryz.underlying49 rfl (yO rfl)
theorem zV6 : yt Tryz.prog TT 55 ⟨.slice 107, 1, 24⟩ := yd (f := Tryz.t55) (by kernel_rfl) rfl rfl (.nil (.st [(.i .i8), (.i .u16)])) (by kernel_rfl) (by kernel_rfl) rfl Tryz.underlying55 rfl (yO rfl)
theorem zVJ : yt Tryz.prog TT 57 ⟨.slice 110, 1, 24⟩ := yd (f := Tryz.t57) (by kernel_rfl) rfl rfl (.nil (.st [(.i .i8), (.i .i16)])) (by kernel_rfl) (by kernel_rfl) rfl Tryz.underlying57 rfl (yO rfl)
theorem zV5 : yt Tryz.prog TT 67 ⟨.ptr 119, 1, 8⟩ := yd (f := Tryz.t67) (by kernel_rfl) rfl rfl (.v (.pointer none)) (by kernel_rfl) (by kernel_rfl) rfl Tryz.underlying67 rfl (yO rfl)
theorem zVU : yt Tryz.prog TT 72 ⟨.ptr 27, 1, 8⟩ := yd (f := Tryz.t72) (by kernel_rfl) rfl rfl (.v (.pointer none)) (by kernel_rfl) (by kernel_rfl) rfl Tryz.underlying72 rfl (yO rfl)
theorem zVP : yt Tryz.prog TT 83 ⟨.ptr 38, 1, 8⟩ := yd (f := Tryz.t83) (by kernel_rfl) rfl rfl (.v (.pointer none)) (by kernel_rfl) (by kernel_rfl) rfl Tryz.underlying83 rfl (yO rfl)
theorem zU6 : yt Tryz.prog TT 104 ⟨.int .u16, 1, 2⟩ := yd (f := Tryz.t104) (by kernel_rfl) rfl rfl (.v (.int .u16 0)) (by kernel_rfl) (by kernel_rfl) rfl Tryz.underlying104 rfl (yO rfl)
theorem zVc : yt Tryz.prog TT 105 ⟨.int .u64, 1, 8⟩ := yd (f := Tryz.t105) (by kernel_rfl) rfl rfl (.v (.int .u64 0)) (by kernel_rfl) (by kernel_rfl) rfl Tryz.underlying105 rfl (yO rfl)
theorem zVn : yt Tryz.prog TT 106 ⟨.struct [(0, 24), (1, 104)], 2, 4⟩ := yd (f := Tryz.t106) (by kernel_rfl) rfl rfl (.rc [.v (.int .i8 0), .v (.int .u16 0)]) (by kernel_rfl) (by kernel_rfl) rfl Tryz.underlying106 rfl (Zu (by kernel_rfl) (by kernel_rfl) (fun ds h => by cases (Tryz.underlying106.symm.trans h) <;> rfl))
theorem zVC : yt Tryz.prog TT 107 ⟨.struct [(0, 24), (1, 104)], 2, 4⟩ := yd (f := Tryz.t107) (by kernel_rfl) rfl rfl (.rc [.v (.int .i8 0), .v (.int .u16 0)]) (by kernel_rfl) (by kernel_rfl) rfl Tryz.underlying107 rfl (Zu (by kernel_rfl) (by kernel_rfl) (fun ds h => by cases (Tryz.underlying107.symm.trans h) <;> rfl))
theorem zUL : yt Tryz.prog TT 108 ⟨.int .i16, 1, 2⟩ := yd (f := Tryz.t108) (by kernel_rfl) rfl rfl (.v (.int .i16 0)) (by kernel_rfl) (by kernel_rfl) rfl Tryz.underlying108 rfl (yO rfl)
theorem zU1 : yt Tryz.prog TT 109 ⟨.struct [(0, 24), (1, 108)], 2, 4⟩ := yd (f := Tryz.t109) (by kernel_rfl) rfl rfl (.rc [.v (.int .i8 0), .v (.int .i16 0)]) (by kernel_rfl) (by kernel_rfl) rfl Tryz.underlying109 rfl (Zu (by kernel_rfl) (by kernel_rfl) (fun ds h => by cases (Tryz.underlying109.symm.trans h) <;> rfl))
theorem zVo : yt Tryz.prog TT 110 ⟨.struct [(0, 24), (1, 108)], 2, 4⟩ := yd (f := Tryz.t110) (by kernel_rfl) rfl rfl (.rc [.v (.int .i8 0), .v (.int .i16 0)]) (by kernel_rfl) (by kernel_rfl) rfl Tryz.underlying110 rfl (Zu (by kernel_rfl) (by kernel_rfl) (fun ds h => by cases (Tryz.underlying110.symm.trans h) <;> rfl))
theorem zVq : yt Tryz.prog TT 117 ⟨.int .u64, 1, 8⟩ := yd (f := Tryz.t117) (by kernel_rfl) rfl rfl (.v (.int .u64 0)) (by kernel_rfl) (by kernel_rfl) rfl Tryz.underlying117 rfl (yO rfl)
theorem zU5 : yt Tryz.prog TT 118 ⟨.struct [(0, 22), (1, 3), (2, 117)], 3, 40⟩ := yd (f := Tryz.t118) (by kernel_rfl) rfl rfl (.rc [.nil (.one (.i .u8)), .v (.int .i64 0), .v (.int .u64 0)]) (by kernel_rfl) (by kernel_rfl) rfl Tryz.underlying118 rfl (Zu (by kernel_rfl) (by kernel_rfl) (fun ds h => by cases (Tryz.underlying118.symm.trans h) <;> rfl))
theorem zVw : yt Tryz.prog TT 119 ⟨.struct [(0, 22), (1, 3), (2, 117)], 3, 40⟩ := yd (f := Tryz.t119) (by kernel_rfl) rfl rfl (.rc [.nil (.one (.i .u8)), .v (.int .i64 0), .v (.int .u64 0)]) (by kernel_rfl) (by kernel_rfl) rfl Tryz.underlying119 rfl (Zu (by kernel_rfl) (by kernel_rfl) (fun ds h => by cases (Tryz.underlying119.symm.trans h) <;> rfl))
theorem zVb : yt Tryz.prog TT 120 ⟨.array 144 4, 144, 144⟩ := yd (f := Tryz.t120) (by kernel_rfl) rfl rfl (.fb 144 zB) (by kernel_rfl) (by kernel_rfl) rfl Tryz.underlying120 ⟨rfl, rfl⟩ (Zu (by kernel_rfl) (by kernel_rfl) (fun ds h => by cases (Tryz.underlying120.symm.trans h) <;> rfl))
theorem zU7 : yt Tryz.prog TT 124 ⟨.ptr 120, 1, 8⟩ := yd (f := Tryz.t124) (by kernel_rfl) rfl rfl (.v (.pointer none)) (by kernel_rfl) (by kernel_rfl) rfl Tryz.underlying124 rfl (yO rfl)
theorem zUX : yt Tryz.prog TT 133 ⟨.array 3 2, 3, 24⟩ := yd (f := Tryz.t133) (by kernel_rfl) rfl rfl (.fa 3 .i64 zF) (by kernel_rfl) (by kernel_rfl) rfl Tryz.underlying133 ⟨rfl, rfl⟩ (Zu (by kernel_rfl) (by kernel_rfl) (fun ds h => by cases (Tryz.underlying133.symm.trans h) <;> rfl))
theorem zVA : yt Tryz.prog TT 140 ⟨.ptr 144, 1, 8⟩ := yd (f := Tryz.t140) (by kernel_rfl) rfl rfl (.v (.pointer none)) (by kernel_rfl) (by kernel_rfl) rfl Tryz.underlying140 rfl (yO rfl)
theorem zU2 : yt Tryz.prog TT 141 ⟨.ptr 171, 1, 8⟩ := yd (f := Tryz.t141) (by kernel_rfl) rfl rfl (.v (.pointer none)) (by kernel_rfl) (by kernel_rfl) rfl Tryz.underlying141 rfl (yO rfl)
theorem zU3 : yt Tryz.prog TT 143 ⟨.struct [(0, 141), (1, 104), (2, 57), (3, 2), (4, 2), (5, 2), (6, 2), (7, 4)], 8, 80⟩ := yd (f := Tryz.t143) (by kernel_rfl) rfl rfl (.rc [.v (.pointer none), .v (.int .u16 0), .nil (.st [(.i .i8), (.i .i16)]), .v (.int .i64 0), .v (.int .i64 0), .v (.int .i64 0), .v (.int .i64 0), .v (.bool false)]) (by kernel_rfl) (by kernel_rfl) rfl Tryz.underlying143 rfl (Zu (by kernel_rfl) (by kernel_rfl) (fun ds h => by cases (Tryz.underlying143.symm.trans h) <;> rfl))
theorem zU8 : yt Tryz.prog TT 144 ⟨.struct [(0, 141), (1, 104), (2, 57), (3, 2), (4, 2), (5, 2), (6, 2), (7, 4)], 8, 80⟩ := yd (f := Tryz.t144) (by kernel_rfl) rfl rfl (.rc [.v (.pointer none), .v (.int .u16 0), .nil (.st [(.i .i8), (.i .i16)]), .v (.int .i64 0), .v (.int .i64 0), .v (.int .i64 0), .v (.int .i64 0), .v (.bool false)]) (by kernel_rfl) (by kernel_rfl) rfl Tryz.underlying144 rfl (Zu (by kernel_rfl) (by kernel_rfl) (fun ds h => by cases (Tryz.underlying144.symm.trans h) <;> rfl))
theorem zVE : yt Tryz.prog TT 145 ⟨.ptr 147, 1, 8⟩ := yd (f := Tryz.t145) (by kernel_rfl) rfl rfl (.v (.pointer none)) (by kernel_rfl) (by kernel_rfl) rfl Tryz.underlying145 rfl (yO rfl)
theorem zVj : yt Tryz.prog TT 146 ⟨.struct [(0, 55), (1, 2), (2, 2), (3, 2), (4, 57), (5, 2), (6, 4)], 7, 88⟩ := yd (f := Tryz.t146) (by kernel_rfl) rfl rfl (.rc [.nil (.st [(.i .i8), (.i .u16)]), .v (.int .i64 0), .v (.int .i64 0), .v (.int .i64 0), .nil (.st [(.i .i8), (.i .i16)]), .v (.int .i64 0), .v (.bool false)]) (by kernel_rfl) (by kernel_rfl) rfl Tryz.underlying146 rfl (Zu (by kernel_rfl) (by kernel_rfl) (fun ds h => by cases (Tryz.underlying146.symm.trans h) <;> rfl))
theorem zUN : yt Tryz.prog TT 147 ⟨.struct [(0, 55), (1, 2), (2, 2), (3, 2), (4, 57), (5, 2), (6, 4)], 7, 88⟩ := yd (f := Tryz.t147) (by kernel_rfl) rfl rfl (.rc [.nil (.st [(.i .i8), (.i .u16)]), .v (.int .i64 0), .v (.int .i64 0), .v (.int .i64 0), .nil (.st [(.i .i8), (.i .i16)]), .v (.int .i64 0), .v (.bool false)]) (by kernel_rfl) (by kernel_rfl) rfl Tryz.underlying147 rfl (Zu (by kernel_rfl) (by kernel_rfl) (fun ds h => by cases (Tryz.underlying147.symm.trans h) <;> rfl))
theorem zUQ : yt Tryz.prog TT 154 ⟨.slice 3, 1, 24⟩ := yd (f := Tryz.t154) (by kernel_rfl) rfl rfl (.nil (.one (.i .i64))) (by kernel_rfl) (by kernel_rfl) rfl Tryz.underlying154 rfl (yO rfl)
theorem zUO : yt Tryz.prog TT 170 ⟨.struct [(0, 55), (1, 57), (2, 32)], 3, 72⟩ := yd (f := Tryz.t170) (by kernel_rfl) rfl rfl (.rc [.nil (.st [(.i .i8), (.i .u16)]), .nil (.st [(.i .i8), (.i .i16)]), .nil (.one (.i .i64))]) (by kernel_rfl) (by kernel_rfl) rfl Tryz.underlying170 rfl (Zu (by kernel_rfl) (by kernel_rfl) (fun ds h => by cases (Tryz.underlying170.symm.trans h) <;> rfl))
theorem zVa : yt Tryz.prog TT 171 ⟨.struct [(0, 55), (1, 57), (2, 32)], 3, 72⟩ := yd (f := Tryz.t171) (by kernel_rfl) rfl rfl (.rc [.nil (.st [(.i .i8), (.i .u16)]), .nil (.st [(.i .i8), (.i .i16)]), .nil (.one (.i .i64))]) (by kernel_rfl) (by kernel_rfl) rfl Tryz.underlying171 rfl (Zu (by kernel_rfl) (by kernel_rfl) (fun ds h => by cases (Tryz.underlying171.symm.trans h) <;> rfl))
theorem zUW : yt Tryz.prog TT 175 ⟨.array 2 2, 2, 16⟩ := yd (f := Tryz.t175) (by kernel_rfl) rfl rfl (.fa 2 .i64 zF) (by kernel_rfl) (by kernel_rfl) rfl Tryz.underlying175 ⟨rfl, rfl⟩ (Zu (by kernel_rfl) (by kernel_rfl) (fun ds h => by cases (Tryz.underlying175.symm.trans h) <;> rfl))
theorem zVl : yt Tryz.prog TT 176 ⟨.array 4 175, 8, 64⟩ := yd (f := Tryz.t176) (by kernel_rfl) rfl rfl (.fa2 4 2 .i64 zF2) (by kernel_rfl) (by kernel_rfl) rfl Tryz.underlying176 ⟨rfl, rfl⟩ (Zu (by kernel_rfl) (by kernel_rfl) (fun ds h => by cases (Tryz.underlying176.symm.trans h) <;> rfl))
theorem zU0 : yt Tryz.prog TT 182 ⟨.int .i64, 1, 8⟩ := yd (f := Tryz.t182) (by kernel_rfl) rfl rfl (.v (.int .i64 0)) (by kernel_rfl) (by kernel_rfl) rfl Tryz.underlying182 rfl (yO rfl)
theorem zUS : yt Tryz.prog TT 190 ⟨.int .u32, 1, 4⟩ := yd (f := Tryz.t190) (by kernel_rfl) rfl rfl (.v (.int .u32 0)) (by kernel_rfl) (by kernel_rfl) rfl Tryz.underlying190 rfl (yO rfl)
theorem zVf : yt Tryz.prog TT 192 ⟨.int .u64, 1, 8⟩ := yd (f := Tryz.t192) (by kernel_rfl) rfl rfl (.v (.int .u64 0)) (by kernel_rfl) (by kernel_rfl) rfl Tryz.underlying192 rfl (yO rfl)
theorem zU4 : yt Tryz.prog TT 196 ⟨.ptr 3, 1, 8⟩ := yd (f := Tryz.t196) (by kernel_rfl) rfl rfl (.v (.pointer none)) (by kernel_rfl) (by kernel_rfl) rfl Tryz.underlying196 rfl (yO rfl)
theorem zVD : yt Tryz.prog TT 198 ⟨.ptr 192, 1, 8⟩ := yd (f := Tryz.t198) (by kernel_rfl) rfl rfl (.v (.pointer none)) (by kernel_rfl) (by kernel_rfl) rfl Tryz.underlying198 rfl (yO rfl)
theorem zUU : yt Tryz.prog TT 204 ⟨.array 0 16, 0, 0⟩ := zUG (f := Tryz.t204) (by kernel_rfl) rfl rfl (by kernel_rfl) Tryz.underlying204 ⟨rfl, rfl⟩ (Zu (by kernel_rfl) (by kernel_rfl) (fun ds h => by cases (Tryz.underlying204.symm.trans h) <;> rfl))
theorem zVu : yt Tryz.prog TT 211 ⟨.ptr 5, 1, 8⟩ := yd (f := Tryz.t211) (by kernel_rfl) rfl rfl (.v (.pointer none)) (by kernel_rfl) (by kernel_rfl) rfl Tryz.underlying211 rfl (yO rfl)
theorem tab : yr Tryz.prog TT := zT6 ⟨ty2, ty3, ty4, ty5, ty9, zV4, zV7, zV0, zVV, zVN, zVY, zVK, zV3, zVH, zVG, zVO, zVI, zVM, zVR, zVS, zV8, zVT, zVZ, zV1, zVW, zVQ, zV6, zVJ, zV5, zVU, zVP, zU6, zVc, zVn, zVC, zUL, zU1, zVo, zVq, zU5, zVw, zVb, zU7, zUX, zVA, zU2, zU3, zU8, zVE, zVj, zUN, zUQ, zUO, zVa, zUW, zVl, zU0, zUS, zVf, zU4, zVD, zUU, zVu, trivial⟩
theorem mix : Tryz.prog.follows .mixedOrders = true := by kernel_rfl
end Go.RR
