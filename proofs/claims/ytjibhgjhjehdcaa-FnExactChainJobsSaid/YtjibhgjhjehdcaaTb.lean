/- The types of the program at hand. -/
import Derived.Test.YtjibhgjhjehdcaaRo
import Derived.Test.YtjibhgjhjehdcaaChecked
set_option linter.unusedVariables false
namespace Go.RR
open Go Go.Proofs

def TT : Tab := [(2, ⟨.int .i64, 1, 8⟩),
  (3, ⟨.int .i64, 1, 8⟩),
  (4, ⟨.bool, 1, 1⟩),
  (5, ⟨.int .u8, 1, 1⟩),
  (6, ⟨.int .u8, 1, 1⟩),
  (7, ⟨.struct [(0, 2), (1, 3), (2, 4), (3, 6)], 4, 24⟩),
  (8, ⟨.struct [(0, 2), (1, 3), (2, 4), (3, 6)], 4, 24⟩),
  (9, ⟨.str, 1, 16⟩),
  (10, ⟨.str, 1, 16⟩),
  (11, ⟨.str, 1, 16⟩),
  (12, ⟨.int .u64, 1, 8⟩),
  (13, ⟨.struct [(0, 9), (1, 12)], 2, 24⟩),
  (14, ⟨.struct [(0, 9), (1, 12)], 2, 24⟩),
  (15, ⟨.ptr 144, 1, 8⟩),
  (16, ⟨.ptr 147, 1, 8⟩),
  (17, ⟨.ptr 157, 1, 8⟩),
  (18, ⟨.struct [(0, 17)], 1, 8⟩),
  (19, ⟨.struct [(0, 17)], 1, 8⟩),
  (21, ⟨.int .i32, 1, 4⟩),
  (22, ⟨.int .i8, 1, 1⟩),
  (23, ⟨.array 144 5, 144, 144⟩),
  (24, ⟨.struct [(0, 22), (1, 22), (2, 23)], 146, 146⟩),
  (25, ⟨.struct [(0, 22), (1, 22), (2, 23)], 146, 146⟩),
  (26, ⟨.slice 2, 1, 24⟩),
  (27, ⟨.struct [(0, 22), (1, 22), (2, 23)], 146, 146⟩),
  (40, ⟨.slice 97, 1, 24⟩),
  (44, ⟨.slice 95, 1, 24⟩),
  (50, ⟨.slice 93, 1, 24⟩),
  (58, ⟨.slice 25, 1, 24⟩),
  (62, ⟨.slice 27, 1, 24⟩),
  (75, ⟨.ptr 27, 1, 8⟩),
  (93, ⟨.int .u16, 1, 2⟩),
  (94, ⟨.struct [(0, 22), (1, 93)], 2, 4⟩),
  (95, ⟨.struct [(0, 22), (1, 93)], 2, 4⟩),
  (97, ⟨.struct [(0, 22), (1, 93)], 2, 4⟩),
  (103, ⟨.int .u64, 1, 8⟩),
  (117, ⟨.array 16 2, 16, 128⟩),
  (119, ⟨.slice 5, 1, 24⟩),
  (126, ⟨.slice 3, 1, 24⟩),
  (131, ⟨.array 3 5, 3, 3⟩),
  (132, ⟨.array 3 5, 3, 3⟩),
  (133, ⟨.array 144 132, 432, 432⟩),
  (134, ⟨.struct [(0, 22), (1, 22), (2, 133)], 434, 434⟩),
  (135, ⟨.struct [(0, 22), (1, 22), (2, 133)], 434, 434⟩),
  (136, ⟨.array 16 3, 16, 128⟩),
  (140, ⟨.array 2 2, 2, 16⟩),
  (141, ⟨.array 4 140, 8, 64⟩),
  (143, ⟨.struct [(0, 17), (1, 17), (2, 17), (3, 9)], 4, 40⟩),
  (144, ⟨.struct [(0, 17), (1, 17), (2, 17), (3, 9)], 4, 40⟩),
  (145, ⟨.array 0 16, 0, 0⟩),
  (146, ⟨.struct [(0, 145)], 0, 0⟩),
  (147, ⟨.struct [(0, 145)], 0, 0⟩),
  (149, ⟨.int .u32, 1, 4⟩),
  (150, ⟨.int .u8, 1, 1⟩),
  (151, ⟨.int .u8, 1, 1⟩),
  (153, ⟨.ptr 5, 1, 8⟩),
  (154, ⟨.int .i32, 1, 4⟩),
  (155, ⟨.int .i32, 1, 4⟩)]
theorem ty2 : TyOK Try.prog TT 2 ⟨.int .i64, 1, 8⟩ := ty_ok (f := Try.t2) (by kernel_rfl) rfl rfl (.v (.int .i64 0)) (by kernel_rfl) (by kernel_rfl) rfl Try.underlying2 rfl
theorem ty3 : TyOK Try.prog TT 3 ⟨.int .i64, 1, 8⟩ := ty_ok (f := Try.t3) (by kernel_rfl) rfl rfl (.v (.int .i64 0)) (by kernel_rfl) (by kernel_rfl) rfl Try.underlying3 rfl
theorem ty4 : TyOK Try.prog TT 4 ⟨.bool, 1, 1⟩ := ty_ok (f := Try.t4) (by kernel_rfl) rfl rfl (.v (.bool false)) (by kernel_rfl) (by kernel_rfl) rfl Try.underlying4 trivial
theorem ty5 : TyOK Try.prog TT 5 ⟨.int .u8, 1, 1⟩ := ty_ok (f := Try.t5) (by kernel_rfl) rfl rfl (.v (.int .u8 0)) (by kernel_rfl) (by kernel_rfl) rfl Try.underlying5 rfl
theorem ty6 : TyOK Try.prog TT 6 ⟨.int .u8, 1, 1⟩ := ty_ok (f := Try.t6) (by kernel_rfl) rfl rfl (.v (.int .u8 0)) (by kernel_rfl) (by kernel_rfl) rfl Try.underlying6 rfl
theorem ty7 : TyOK Try.prog TT 7 ⟨.struct [(0, 2), (1, 3), (2, 4), (3, 6)], 4, 24⟩ := ty_ok (f := Try.t7) (by kernel_rfl) rfl rfl (.rc [.v (.int .i64 0), .v (.int .i64 0), .v (.bool false), .v (.int .u8 0)]) (by kernel_rfl) (by kernel_rfl) rfl Try.underlying7 rfl
theorem ty8 : TyOK Try.prog TT 8 ⟨.struct [(0, 2), (1, 3), (2, 4), (3, 6)], 4, 24⟩ := ty_ok (f := Try.t8) (by kernel_rfl) rfl rfl (.rc [.v (.int .i64 0), .v (.int .i64 0), .v (.bool false), .v (.int .u8 0)]) (by kernel_rfl) (by kernel_rfl) rfl Try.underlying8 rfl
theorem ty9 : TyOK Try.prog TT 9 ⟨.str, 1, 16⟩ := ty_ok (f := Try.t9) (by kernel_rfl) rfl rfl (.v (.string (⟨#[]⟩ : ByteArray))) (by kernel_rfl) (by kernel_rfl) rfl Try.underlying9 trivial
theorem ty10 : TyOK Try.prog TT 10 ⟨.str, 1, 16⟩ := ty_ok (f := Try.t10) (by kernel_rfl) rfl rfl (.v (.string (⟨#[]⟩ : ByteArray))) (by kernel_rfl) (by kernel_rfl) rfl Try.underlying10 trivial
theorem ty11 : TyOK Try.prog TT 11 ⟨.str, 1, 16⟩ := ty_ok (f := Try.t11) (by kernel_rfl) rfl rfl (.v (.string (⟨#[]⟩ : ByteArray))) (by kernel_rfl) (by kernel_rfl) rfl Try.underlying11 trivial
theorem ty12 : TyOK Try.prog TT 12 ⟨.int .u64, 1, 8⟩ := ty_ok (f := Try.t12) (by kernel_rfl) rfl rfl (.v (.int .u64 0)) (by kernel_rfl) (by kernel_rfl) rfl Try.underlying12 rfl
theorem ty13 : TyOK Try.prog TT 13 ⟨.struct [(0, 9), (1, 12)], 2, 24⟩ := ty_ok (f := Try.t13) (by kernel_rfl) rfl rfl (.rc [.v (.string (⟨#[]⟩ : ByteArray)), .v (.int .u64 0)]) (by kernel_rfl) (by kernel_rfl) rfl Try.underlying13 rfl
theorem ty14 : TyOK Try.prog TT 14 ⟨.struct [(0, 9), (1, 12)], 2, 24⟩ := ty_ok (f := Try.t14) (by kernel_rfl) rfl rfl (.rc [.v (.string (⟨#[]⟩ : ByteArray)), .v (.int .u64 0)]) (by kernel_rfl) (by kernel_rfl) rfl Try.underlying14 rfl
theorem ty15 : TyOK Try.prog TT 15 ⟨.ptr 144, 1, 8⟩ := ty_ok (f := Try.t15) (by kernel_rfl) rfl rfl (.v (.pointer none)) (by kernel_rfl) (by kernel_rfl) rfl Try.underlying15 rfl
theorem ty16 : TyOK Try.prog TT 16 ⟨.ptr 147, 1, 8⟩ := ty_ok (f := Try.t16) (by kernel_rfl) rfl rfl (.v (.pointer none)) (by kernel_rfl) (by kernel_rfl) rfl Try.underlying16 rfl
theorem ty17 : TyOK Try.prog TT 17 ⟨.ptr 157, 1, 8⟩ := ty_ok (f := Try.t17) (by kernel_rfl) rfl rfl (.v (.pointer none)) (by kernel_rfl) (by kernel_rfl) rfl Try.underlying17 rfl
theorem ty18 : TyOK Try.prog TT 18 ⟨.struct [(0, 17)], 1, 8⟩ := ty_ok (f := Try.t18) (by kernel_rfl) rfl rfl (.rc [.v (.pointer none)]) (by kernel_rfl) (by kernel_rfl) rfl Try.underlying18 rfl
theorem ty19 : TyOK Try.prog TT 19 ⟨.struct [(0, 17)], 1, 8⟩ := ty_ok (f := Try.t19) (by kernel_rfl) rfl rfl (.rc [.v (.pointer none)]) (by kernel_rfl) (by kernel_rfl) rfl Try.underlying19 rfl
theorem ty21 : TyOK Try.prog TT 21 ⟨.int .i32, 1, 4⟩ := ty_ok (f := Try.t21) (by kernel_rfl) rfl rfl (.v (.int .i32 0)) (by kernel_rfl) (by kernel_rfl) rfl Try.underlying21 rfl
theorem ty22 : TyOK Try.prog TT 22 ⟨.int .i8, 1, 1⟩ := ty_ok (f := Try.t22) (by kernel_rfl) rfl rfl (.v (.int .i8 0)) (by kernel_rfl) (by kernel_rfl) rfl Try.underlying22 rfl
theorem ty23 : TyOK Try.prog TT 23 ⟨.array 144 5, 144, 144⟩ := ty_ok (f := Try.t23) (by kernel_rfl) rfl rfl (.fa 144 .u8 zF) (by kernel_rfl) (by kernel_rfl) rfl Try.underlying23 ⟨rfl, rfl⟩
theorem ty24 : TyOK Try.prog TT 24 ⟨.struct [(0, 22), (1, 22), (2, 23)], 146, 146⟩ := ty_ok (f := Try.t24) (by kernel_rfl) rfl rfl (.rc [.v (.int .i8 0), .v (.int .i8 0), .fa 144 .u8 zF]) (by kernel_rfl) (by kernel_rfl) rfl Try.underlying24 rfl
theorem ty25 : TyOK Try.prog TT 25 ⟨.struct [(0, 22), (1, 22), (2, 23)], 146, 146⟩ := ty_ok (f := Try.t25) (by kernel_rfl) rfl rfl (.rc [.v (.int .i8 0), .v (.int .i8 0), .fa 144 .u8 zF]) (by kernel_rfl) (by kernel_rfl) rfl Try.underlying25 rfl
theorem ty26 : TyOK Try.prog TT 26 ⟨.slice 2, 1, 24⟩ := ty_ok (f := Try.t26) (by kernel_rfl) rfl rfl (.nil (.one (.i .i64))) (by kernel_rfl) (by kernel_rfl) rfl Try.underlying26 rfl
theorem ty27 : TyOK Try.prog TT 27 ⟨.struct [(0, 22), (1, 22), (2, 23)], 146, 146⟩ := ty_ok (f := Try.t27) (by kernel_rfl) rfl rfl (.rc [.v (.int .i8 0), .v (.int .i8 0), .fa 144 .u8 zF]) (by kernel_rfl) (by kernel_rfl) rfl Try.underlying27 rfl
theorem ty40 : TyOK Try.prog TT 40 ⟨.slice 97, 1, 24⟩ := ty_ok (f := Try.t40) (by kernel_rfl) rfl rfl (.nil (.st [(.i .i8), (.i .u16)])) (by kernel_rfl) (by kernel_rfl) rfl Try.underlying40 rfl
theorem ty44 : TyOK Try.prog TT 44 ⟨.slice 95, 1, 24⟩ := ty_ok (f := Try.t44) (by kernel_rfl) rfl rfl (.nil (.st [(.i .i8), (.i .u16)])) (by kernel_rfl) (by kernel_rfl) rfl Try.underlying44 rfl
theorem ty50 : TyOK Try.prog TT 50 ⟨.slice 93, 1, 24⟩ := ty_ok (f := Try.t50) (by kernel_rfl) rfl rfl (.nil (.one (.i .u16))) (by kernel_rfl) (by kernel_rfl) rfl Try.underlying50 rfl
theorem ty58 : TyOK Try.prog TT 58 ⟨.slice 25, 1, 24⟩ := ty_ok (f := Try.t58) (by kernel_rfl) rfl rfl (.nil (.st [(.i .i8), (.i .i8), (.fa 144 .u8)])) (by kernel_rfl) (by kernel_rfl) rfl Try.underlying58 rfl
theorem ty62 : TyOK Try.prog TT 62 ⟨.slice 27, 1, 24⟩ := ty_ok (f := Try.t62) (by kernel_rfl) rfl rfl (.nil (.st [(.i .i8), (.i .i8), (.fa 144 .u8)])) (by kernel_rfl) (by kernel_rfl) rfl Try.underlying62 rfl
theorem ty75 : TyOK Try.prog TT 75 ⟨.ptr 27, 1, 8⟩ := ty_ok (f := Try.t75) (by kernel_rfl) rfl rfl (.v (.pointer none)) (by kernel_rfl) (by kernel_rfl) rfl Try.underlying75 rfl
theorem ty93 : TyOK Try.prog TT 93 ⟨.int .u16, 1, 2⟩ := ty_ok (f := Try.t93) (by kernel_rfl) rfl rfl (.v (.int .u16 0)) (by kernel_rfl) (by kernel_rfl) rfl Try.underlying93 rfl
theorem ty94 : TyOK Try.prog TT 94 ⟨.struct [(0, 22), (1, 93)], 2, 4⟩ := ty_ok (f := Try.t94) (by kernel_rfl) rfl rfl (.rc [.v (.int .i8 0), .v (.int .u16 0)]) (by kernel_rfl) (by kernel_rfl) rfl Try.underlying94 rfl
theorem ty95 : TyOK Try.prog TT 95 ⟨.struct [(0, 22), (1, 93)], 2, 4⟩ := ty_ok (f := Try.t95) (by kernel_rfl) rfl rfl (.rc [.v (.int .i8 0), .v (.int .u16 0)]) (by kernel_rfl) (by kernel_rfl) rfl Try.underlying95 rfl
theorem ty97 : TyOK Try.prog TT 97 ⟨.struct [(0, 22), (1, 93)], 2, 4⟩ := ty_ok (f := Try.t97) (by kernel_rfl) rfl rfl (.rc [.v (.int .i8 0), .v (.int .u16 0)]) (by kernel_rfl) (by kernel_rfl) rfl Try.underlying97 rfl
theorem ty103 : TyOK Try.prog TT 103 ⟨.int .u64, 1, 8⟩ := ty_ok (f := Try.t103) (by kernel_rfl) rfl rfl (.v (.int .u64 0)) (by kernel_rfl) (by kernel_rfl) rfl Try.underlying103 rfl
theorem ty117 : TyOK Try.prog TT 117 ⟨.array 16 2, 16, 128⟩ := ty_ok (f := Try.t117) (by kernel_rfl) rfl rfl (.fa 16 .i64 zF) (by kernel_rfl) (by kernel_rfl) rfl Try.underlying117 ⟨rfl, rfl⟩
theorem ty119 : TyOK Try.prog TT 119 ⟨.slice 5, 1, 24⟩ := ty_ok (f := Try.t119) (by kernel_rfl) rfl rfl (.nil (.one (.i .u8))) (by kernel_rfl) (by kernel_rfl) rfl Try.underlying119 rfl
theorem ty126 : TyOK Try.prog TT 126 ⟨.slice 3, 1, 24⟩ := ty_ok (f := Try.t126) (by kernel_rfl) rfl rfl (.nil (.one (.i .i64))) (by kernel_rfl) (by kernel_rfl) rfl Try.underlying126 rfl
theorem ty131 : TyOK Try.prog TT 131 ⟨.array 3 5, 3, 3⟩ := ty_ok (f := Try.t131) (by kernel_rfl) rfl rfl (.fa 3 .u8 zF) (by kernel_rfl) (by kernel_rfl) rfl Try.underlying131 ⟨rfl, rfl⟩
theorem ty132 : TyOK Try.prog TT 132 ⟨.array 3 5, 3, 3⟩ := ty_ok (f := Try.t132) (by kernel_rfl) rfl rfl (.fa 3 .u8 zF) (by kernel_rfl) (by kernel_rfl) rfl Try.underlying132 ⟨rfl, rfl⟩
theorem ty133 : TyOK Try.prog TT 133 ⟨.array 144 132, 432, 432⟩ := ty_ok (f := Try.t133) (by kernel_rfl) rfl rfl (.fa2 144 3 .u8 zF2) (by kernel_rfl) (by kernel_rfl) rfl Try.underlying133 ⟨rfl, rfl⟩
theorem ty134 : TyOK Try.prog TT 134 ⟨.struct [(0, 22), (1, 22), (2, 133)], 434, 434⟩ := ty_ok (f := Try.t134) (by kernel_rfl) rfl rfl (.rc [.v (.int .i8 0), .v (.int .i8 0), .fa2 144 3 .u8 zF2]) (by kernel_rfl) (by kernel_rfl) rfl Try.underlying134 rfl
theorem ty135 : TyOK Try.prog TT 135 ⟨.struct [(0, 22), (1, 22), (2, 133)], 434, 434⟩ := ty_ok (f := Try.t135) (by kernel_rfl) rfl rfl (.rc [.v (.int .i8 0), .v (.int .i8 0), .fa2 144 3 .u8 zF2]) (by kernel_rfl) (by kernel_rfl) rfl Try.underlying135 rfl
theorem ty136 : TyOK Try.prog TT 136 ⟨.array 16 3, 16, 128⟩ := ty_ok (f := Try.t136) (by kernel_rfl) rfl rfl (.fa 16 .i64 zF) (by kernel_rfl) (by kernel_rfl) rfl Try.underlying136 ⟨rfl, rfl⟩
theorem ty140 : TyOK Try.prog TT 140 ⟨.array 2 2, 2, 16⟩ := ty_ok (f := Try.t140) (by kernel_rfl) rfl rfl (.fa 2 .i64 zF) (by kernel_rfl) (by kernel_rfl) rfl Try.underlying140 ⟨rfl, rfl⟩
theorem ty141 : TyOK Try.prog TT 141 ⟨.array 4 140, 8, 64⟩ := ty_ok (f := Try.t141) (by kernel_rfl) rfl rfl (.fa2 4 2 .i64 zF2) (by kernel_rfl) (by kernel_rfl) rfl Try.underlying141 ⟨rfl, rfl⟩
theorem ty143 : TyOK Try.prog TT 143 ⟨.struct [(0, 17), (1, 17), (2, 17), (3, 9)], 4, 40⟩ := ty_ok (f := Try.t143) (by kernel_rfl) rfl rfl (.rc [.v (.pointer none), .v (.pointer none), .v (.pointer none), .v (.string (⟨#[]⟩ : ByteArray))]) (by kernel_rfl) (by kernel_rfl) rfl Try.underlying143 rfl
theorem ty144 : TyOK Try.prog TT 144 ⟨.struct [(0, 17), (1, 17), (2, 17), (3, 9)], 4, 40⟩ := ty_ok (f := Try.t144) (by kernel_rfl) rfl rfl (.rc [.v (.pointer none), .v (.pointer none), .v (.pointer none), .v (.string (⟨#[]⟩ : ByteArray))]) (by kernel_rfl) (by kernel_rfl) rfl Try.underlying144 rfl
theorem ty145 : TyOK Try.prog TT 145 ⟨.array 0 16, 0, 0⟩ := ty_ok' (f := Try.t145) (by kernel_rfl) rfl rfl (by kernel_rfl) Try.underlying145 ⟨rfl, rfl⟩
theorem ty146 : TyOK Try.prog TT 146 ⟨.struct [(0, 145)], 0, 0⟩ := ty_ok' (f := Try.t146) (by kernel_rfl) rfl rfl (by kernel_rfl) Try.underlying146 rfl
theorem ty147 : TyOK Try.prog TT 147 ⟨.struct [(0, 145)], 0, 0⟩ := ty_ok' (f := Try.t147) (by kernel_rfl) rfl rfl (by kernel_rfl) Try.underlying147 rfl
theorem ty149 : TyOK Try.prog TT 149 ⟨.int .u32, 1, 4⟩ := ty_ok (f := Try.t149) (by kernel_rfl) rfl rfl (.v (.int .u32 0)) (by kernel_rfl) (by kernel_rfl) rfl Try.underlying149 rfl
theorem ty150 : TyOK Try.prog TT 150 ⟨.int .u8, 1, 1⟩ := ty_ok (f := Try.t150) (by kernel_rfl) rfl rfl (.v (.int .u8 0)) (by kernel_rfl) (by kernel_rfl) rfl Try.underlying150 rfl
theorem ty151 : TyOK Try.prog TT 151 ⟨.int .u8, 1, 1⟩ := ty_ok (f := Try.t151) (by kernel_rfl) rfl rfl (.v (.int .u8 0)) (by kernel_rfl) (by kernel_rfl) rfl Try.underlying151 rfl
theorem ty153 : TyOK Try.prog TT 153 ⟨.ptr 5, 1, 8⟩ := ty_ok (f := Try.t153) (by kernel_rfl) rfl rfl (.v (.pointer none)) (by kernel_rfl) (by kernel_rfl) rfl Try.underlying153 rfl
theorem ty154 : TyOK Try.prog TT 154 ⟨.int .i32, 1, 4⟩ := ty_ok (f := Try.t154) (by kernel_rfl) rfl rfl (.v (.int .i32 0)) (by kernel_rfl) (by kernel_rfl) rfl Try.underlying154 rfl
theorem ty155 : TyOK Try.prog TT 155 ⟨.int .i32, 1, 4⟩ := ty_ok (f := Try.t155) (by kernel_rfl) rfl rfl (.v (.int .i32 0)) (by kernel_rfl) (by kernel_rfl) rfl Try.underlying155 rfl
theorem tab : TabOK Try.prog TT := tab_of ⟨ty2, ty3, ty4, ty5, ty6, ty7, ty8, ty9, ty10, ty11, ty12, ty13, ty14, ty15, ty16, ty17, ty18, ty19, ty21, ty22, ty23, ty24, ty25, ty26, ty27, ty40, ty44, ty50, ty58, ty62, ty75, ty93, ty94, ty95, ty97, ty103, ty117, ty119, ty126, ty131, ty132, ty133, ty134, ty135, ty136, ty140, ty141, ty143, ty144, ty145, ty146, ty147, ty149, ty150, ty151, ty153, ty154, ty155, trivial⟩
theorem mix : Try.prog.follows .mixedOrders = true := by kernel_rfl
end Go.RR
