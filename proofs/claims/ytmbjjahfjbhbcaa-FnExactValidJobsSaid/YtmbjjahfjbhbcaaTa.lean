/- The types of the program at hand. -/
import Derived.Test.YtmbjjahfjbhbcaaRo
import Derived.Test.YtmbjjahfjbhbcaaChecked
set_option linter.unusedVariables false
namespace Go.RR
open Go Go.Proofs

def TT : Tab := [(2, ⟨.int .i64, 1, 8⟩),
  (3, ⟨.int .i64, 1, 8⟩),
  (4, ⟨.bool, 1, 1⟩),
  (5, ⟨.int .u8, 1, 1⟩),
  (6, ⟨.int .u8, 1, 1⟩),
  (7, ⟨.struct [(0, 2), (1, 3), (2, 4), (3, 6)], 4, 24⟩),
  (8, ⟨.struct [(0, 2), (1, 3), (2, 4), (3, 6)], 4, 24⟩),
  (9, ⟨.str, 1, 16⟩),
  (10, ⟨.str, 1, 16⟩),
  (11, ⟨.str, 1, 16⟩),
  (12, ⟨.int .u64, 1, 8⟩),
  (13, ⟨.struct [(0, 9), (1, 12)], 2, 24⟩),
  (14, ⟨.struct [(0, 9), (1, 12)], 2, 24⟩),
  (15, ⟨.ptr 115, 1, 8⟩),
  (16, ⟨.ptr 118, 1, 8⟩),
  (17, ⟨.ptr 128, 1, 8⟩),
  (18, ⟨.struct [(0, 17)], 1, 8⟩),
  (19, ⟨.struct [(0, 17)], 1, 8⟩),
  (21, ⟨.int .i32, 1, 4⟩),
  (22, ⟨.int .i8, 1, 1⟩),
  (23, ⟨.array 144 5, 144, 144⟩),
  (24, ⟨.struct [(0, 22), (1, 22), (2, 23)], 146, 146⟩),
  (25, ⟨.struct [(0, 22), (1, 22), (2, 23)], 146, 146⟩),
  (28, ⟨.struct [(0, 22), (1, 22), (2, 23)], 146, 146⟩),
  (34, ⟨.slice 75, 1, 24⟩),
  (37, ⟨.slice 73, 1, 24⟩),
  (41, ⟨.slice 2, 1, 24⟩),
  (51, ⟨.array 16 2, 16, 128⟩),
  (61, ⟨.ptr 28, 1, 8⟩),
  (71, ⟨.int .u16, 1, 2⟩),
  (72, ⟨.struct [(0, 22), (1, 71)], 2, 4⟩),
  (73, ⟨.struct [(0, 22), (1, 71)], 2, 4⟩),
  (75, ⟨.struct [(0, 22), (1, 71)], 2, 4⟩),
  (86, ⟨.slice 28, 1, 24⟩),
  (96, ⟨.int .u64, 1, 8⟩),
  (101, ⟨.slice 3, 1, 24⟩),
  (104, ⟨.array 3 5, 3, 3⟩),
  (105, ⟨.array 3 5, 3, 3⟩),
  (106, ⟨.array 144 105, 432, 432⟩),
  (107, ⟨.struct [(0, 22), (1, 22), (2, 106)], 434, 434⟩),
  (108, ⟨.struct [(0, 22), (1, 22), (2, 106)], 434, 434⟩),
  (114, ⟨.struct [(0, 17), (1, 17), (2, 17), (3, 9)], 4, 40⟩),
  (115, ⟨.struct [(0, 17), (1, 17), (2, 17), (3, 9)], 4, 40⟩),
  (116, ⟨.array 0 16, 0, 0⟩),
  (117, ⟨.struct [(0, 116)], 0, 0⟩),
  (118, ⟨.struct [(0, 116)], 0, 0⟩),
  (120, ⟨.int .u32, 1, 4⟩),
  (121, ⟨.int .u8, 1, 1⟩),
  (122, ⟨.int .u8, 1, 1⟩),
  (124, ⟨.ptr 5, 1, 8⟩),
  (125, ⟨.int .i32, 1, 4⟩),
  (126, ⟨.int .i32, 1, 4⟩)]
theorem ty2 : TyOK Try.prog TT 2 ⟨.int .i64, 1, 8⟩ := ty_ok (f := Try.t2) (by kernel_rfl) rfl rfl (.v (.int .i64 0)) (by kernel_rfl) (by kernel_rfl) rfl Try.underlying2 rfl
theorem ty3 : TyOK Try.prog TT 3 ⟨.int .i64, 1, 8⟩ := ty_ok (f := Try.t3) (by kernel_rfl) rfl rfl (.v (.int .i64 0)) (by kernel_rfl) (by kernel_rfl) rfl Try.underlying3 rfl
theorem ty4 : TyOK Try.prog TT 4 ⟨.bool, 1, 1⟩ := ty_ok (f := Try.t4) (by kernel_rfl) rfl rfl (.v (.bool false)) (by kernel_rfl) (by kernel_rfl) rfl Try.underlying4 trivial
theorem ty5 : TyOK Try.prog TT 5 ⟨.int .u8, 1, 1⟩ := ty_ok (f := Try.t5) (by kernel_rfl) rfl rfl (.v (.int .u8 0)) (by kernel_rfl) (by kernel_rfl) rfl Try.underlying5 rfl
theorem ty6 : TyOK Try.prog TT 6 ⟨.int .u8, 1, 1⟩ := ty_ok (f := Try.t6) (by kernel_rfl) rfl rfl (.v (.int .u8 0)) (by kernel_rfl) (by kernel_rfl) rfl Try.underlying6 rfl
theorem ty7 : TyOK Try.prog TT 7 ⟨.struct [(0, 2), (1, 3), (2, 4), (3, 6)], 4, 24⟩ := ty_ok (f := Try.t7) (by kernel_rfl) rfl rfl (.rc [.v (.int .i64 0), .v (.int .i64 0), .v (.bool false), .v (.int .u8 0)]) (by kernel_rfl) (by kernel_rfl) rfl Try.underlying7 rfl
theorem ty8 : TyOK Try.prog TT 8 ⟨.struct [(0, 2), (1, 3), (2, 4), (3, 6)], 4, 24⟩ := ty_ok (f := Try.t8) (by kernel_rfl) rfl rfl (.rc [.v (.int .i64 0), .v (.int .i64 0), .v (.bool false), .v (.int .u8 0)]) (by kernel_rfl) (by kernel_rfl) rfl Try.underlying8 rfl
theorem ty9 : TyOK Try.prog TT 9 ⟨.str, 1, 16⟩ := ty_ok (f := Try.t9) (by kernel_rfl) rfl rfl (.v (.string (⟨#[]⟩ : ByteArray))) (by kernel_rfl) (by kernel_rfl) rfl Try.underlying9 trivial
theorem ty10 : TyOK Try.prog TT 10 ⟨.str, 1, 16⟩ := ty_ok (f := Try.t10) (by kernel_rfl) rfl rfl (.v (.string (⟨#[]⟩ : ByteArray))) (by kernel_rfl) (by kernel_rfl) rfl Try.underlying10 trivial
theorem ty11 : TyOK Try.prog TT 11 ⟨.str, 1, 16⟩ := ty_ok (f := Try.t11) (by kernel_rfl) rfl rfl (.v (.string (⟨#[]⟩ : ByteArray))) (by kernel_rfl) (by kernel_rfl) rfl Try.underlying11 trivial
theorem ty12 : TyOK Try.prog TT 12 ⟨.int .u64, 1, 8⟩ := ty_ok (f := Try.t12) (by kernel_rfl) rfl rfl (.v (.int .u64 0)) (by kernel_rfl) (by kernel_rfl) rfl Try.underlying12 rfl
theorem ty13 : TyOK Try.prog TT 13 ⟨.struct [(0, 9), (1, 12)], 2, 24⟩ := ty_ok (f := Try.t13) (by kernel_rfl) rfl rfl (.rc [.v (.string (⟨#[]⟩ : ByteArray)), .v (.int .u64 0)]) (by kernel_rfl) (by kernel_rfl) rfl Try.underlying13 rfl
theorem ty14 : TyOK Try.prog TT 14 ⟨.struct [(0, 9), (1, 12)], 2, 24⟩ := ty_ok (f := Try.t14) (by kernel_rfl) rfl rfl (.rc [.v (.string (⟨#[]⟩ : ByteArray)), .v (.int .u64 0)]) (by kernel_rfl) (by kernel_rfl) rfl Try.underlying14 rfl
theorem ty15 : TyOK Try.prog TT 15 ⟨.ptr 115, 1, 8⟩ := ty_ok (f := Try.t15) (by kernel_rfl) rfl rfl (.v (.pointer none)) (by kernel_rfl) (by kernel_rfl) rfl Try.underlying15 rfl
theorem ty16 : TyOK Try.prog TT 16 ⟨.ptr 118, 1, 8⟩ := ty_ok (f := Try.t16) (by kernel_rfl) rfl rfl (.v (.pointer none)) (by kernel_rfl) (by kernel_rfl) rfl Try.underlying16 rfl
theorem ty17 : TyOK Try.prog TT 17 ⟨.ptr 128, 1, 8⟩ := ty_ok (f := Try.t17) (by kernel_rfl) rfl rfl (.v (.pointer none)) (by kernel_rfl) (by kernel_rfl) rfl Try.underlying17 rfl
theorem ty18 : TyOK Try.prog TT 18 ⟨.struct [(0, 17)], 1, 8⟩ := ty_ok (f := Try.t18) (by kernel_rfl) rfl rfl (.rc [.v (.pointer none)]) (by kernel_rfl) (by kernel_rfl) rfl Try.underlying18 rfl
theorem ty19 : TyOK Try.prog TT 19 ⟨.struct [(0, 17)], 1, 8⟩ := ty_ok (f := Try.t19) (by kernel_rfl) rfl rfl (.rc [.v (.pointer none)]) (by kernel_rfl) (by kernel_rfl) rfl Try.underlying19 rfl
theorem ty21 : TyOK Try.prog TT 21 ⟨.int .i32, 1, 4⟩ := ty_ok (f := Try.t21) (by kernel_rfl) rfl rfl (.v (.int .i32 0)) (by kernel_rfl) (by kernel_rfl) rfl Try.underlying21 rfl
theorem ty22 : TyOK Try.prog TT 22 ⟨.int .i8, 1, 1⟩ := ty_ok (f := Try.t22) (by kernel_rfl) rfl rfl (.v (.int .i8 0)) (by kernel_rfl) (by kernel_rfl) rfl Try.underlying22 rfl
theorem ty23 : TyOK Try.prog TT 23 ⟨.array 144 5, 144, 144⟩ := ty_ok (f := Try.t23) (by kernel_rfl) rfl rfl (.fa 144 .u8 zF) (by kernel_rfl) (by kernel_rfl) rfl Try.underlying23 ⟨rfl, rfl⟩
theorem ty24 : TyOK Try.prog TT 24 ⟨.struct [(0, 22), (1, 22), (2, 23)], 146, 146⟩ := ty_ok (f := Try.t24) (by kernel_rfl) rfl rfl (.rc [.v (.int .i8 0), .v (.int .i8 0), .fa 144 .u8 zF]) (by kernel_rfl) (by kernel_rfl) rfl Try.underlying24 rfl
theorem ty25 : TyOK Try.prog TT 25 ⟨.struct [(0, 22), (1, 22), (2, 23)], 146, 146⟩ := ty_ok (f := Try.t25) (by kernel_rfl) rfl rfl (.rc [.v (.int .i8 0), .v (.int .i8 0), .fa 144 .u8 zF]) (by kernel_rfl) (by kernel_rfl) rfl Try.underlying25 rfl
theorem ty28 : TyOK Try.prog TT 28 ⟨.struct [(0, 22), (1, 22), (2, 23)], 146, 146⟩ := ty_ok (f := Try.t28) (by kernel_rfl) rfl rfl (.rc [.v (.int .i8 0), .v (.int .i8 0), .fa 144 .u8 zF]) (by kernel_rfl) (by kernel_rfl) rfl Try.underlying28 rfl
theorem ty34 : TyOK Try.prog TT 34 ⟨.slice 75, 1, 24⟩ := ty_ok (f := Try.t34) (by kernel_rfl) rfl rfl (.nil (.st [(.i .i8), (.i .u16)])) (by kernel_rfl) (by kernel_rfl) rfl Try.underlying34 rfl
theorem ty37 : TyOK Try.prog TT 37 ⟨.slice 73, 1, 24⟩ := ty_ok (f := Try.t37) (by kernel_rfl) rfl rfl (.nil (.st [(.i .i8), (.i .u16)])) (by kernel_rfl) (by kernel_rfl) rfl Try.underlying37 rfl
theorem ty41 : TyOK Try.prog TT 41 ⟨.slice 2, 1, 24⟩ := ty_ok (f := Try.t41) (by kernel_rfl) rfl rfl (.nil (.one (.i .i64))) (by kernel_rfl) (by kernel_rfl) rfl Try.underlying41 rfl
theorem ty51 : TyOK Try.prog TT 51 ⟨.array 16 2, 16, 128⟩ := ty_ok (f := Try.t51) (by kernel_rfl) rfl rfl (.fa 16 .i64 zF) (by kernel_rfl) (by kernel_rfl) rfl Try.underlying51 ⟨rfl, rfl⟩
theorem ty61 : TyOK Try.prog TT 61 ⟨.ptr 28, 1, 8⟩ := ty_ok (f := Try.t61) (by kernel_rfl) rfl rfl (.v (.pointer none)) (by kernel_rfl) (by kernel_rfl) rfl Try.underlying61 rfl
theorem ty71 : TyOK Try.prog TT 71 ⟨.int .u16, 1, 2⟩ := ty_ok (f := Try.t71) (by kernel_rfl) rfl rfl (.v (.int .u16 0)) (by kernel_rfl) (by kernel_rfl) rfl Try.underlying71 rfl
theorem ty72 : TyOK Try.prog TT 72 ⟨.struct [(0, 22), (1, 71)], 2, 4⟩ := ty_ok (f := Try.t72) (by kernel_rfl) rfl rfl (.rc [.v (.int .i8 0), .v (.int .u16 0)]) (by kernel_rfl) (by kernel_rfl) rfl Try.underlying72 rfl
theorem ty73 : TyOK Try.prog TT 73 ⟨.struct [(0, 22), (1, 71)], 2, 4⟩ := ty_ok (f := Try.t73) (by kernel_rfl) rfl rfl (.rc [.v (.int .i8 0), .v (.int .u16 0)]) (by kernel_rfl) (by kernel_rfl) rfl Try.underlying73 rfl
theorem ty75 : TyOK Try.prog TT 75 ⟨.struct [(0, 22), (1, 71)], 2, 4⟩ := ty_ok (f := Try.t75) (by kernel_rfl) rfl rfl (.rc [.v (.int .i8 0), .v (.int .u16 0)]) (by kernel_rfl) (by kernel_rfl) rfl Try.underlying75 rfl
theorem ty86 : TyOK Try.prog TT 86 ⟨.slice 28, 1, 24⟩ := ty_ok (f := Try.t86) (by kernel_rfl) rfl rfl (.nil (.st [(.i .i8), (.i .i8), (.fa 144 .u8)])) (by kernel_rfl) (by kernel_rfl) rfl Try.underlying86 rfl
theorem ty96 : TyOK Try.prog TT 96 ⟨.int .u64, 1, 8⟩ := ty_ok (f := Try.t96) (by kernel_rfl) rfl rfl (.v (.int .u64 0)) (by kernel_rfl) (by kernel_rfl) rfl Try.underlying96 rfl
theorem ty101 : TyOK Try.prog TT 101 ⟨.slice 3, 1, 24⟩ := ty_ok (f := Try.t101) (by kernel_rfl) rfl rfl (.nil (.one (.i .i64))) (by kernel_rfl) (by kernel_rfl) rfl Try.underlying101 rfl
theorem ty104 : TyOK Try.prog TT 104 ⟨.array 3 5, 3, 3⟩ := ty_ok (f := Try.t104) (by kernel_rfl) rfl rfl (.fa 3 .u8 zF) (by kernel_rfl) (by kernel_rfl) rfl Try.underlying104 ⟨rfl, rfl⟩
theorem ty105 : TyOK Try.prog TT 105 ⟨.array 3 5, 3, 3⟩ := ty_ok (f := Try.t105) (by kernel_rfl) rfl rfl (.fa 3 .u8 zF) (by kernel_rfl) (by kernel_rfl) rfl Try.underlying105 ⟨rfl, rfl⟩
theorem ty106 : TyOK Try.prog TT 106 ⟨.array 144 105, 432, 432⟩ := ty_ok (f := Try.t106) (by kernel_rfl) rfl rfl (.fa2 144 3 .u8 zF2) (by kernel_rfl) (by kernel_rfl) rfl Try.underlying106 ⟨rfl, rfl⟩
theorem ty107 : TyOK Try.prog TT 107 ⟨.struct [(0, 22), (1, 22), (2, 106)], 434, 434⟩ := ty_ok (f := Try.t107) (by kernel_rfl) rfl rfl (.rc [.v (.int .i8 0), .v (.int .i8 0), .fa2 144 3 .u8 zF2]) (by kernel_rfl) (by kernel_rfl) rfl Try.underlying107 rfl
theorem ty108 : TyOK Try.prog TT 108 ⟨.struct [(0, 22), (1, 22), (2, 106)], 434, 434⟩ := ty_ok (f := Try.t108) (by kernel_rfl) rfl rfl (.rc [.v (.int .i8 0), .v (.int .i8 0), .fa2 144 3 .u8 zF2]) (by kernel_rfl) (by kernel_rfl) rfl Try.underlying108 rfl
theorem ty114 : TyOK Try.prog TT 114 ⟨.struct [(0, 17), (1, 17), (2, 17), (3, 9)], 4, 40⟩ := ty_ok (f := Try.t114) (by kernel_rfl) rfl rfl (.rc [.v (.pointer none), .v (.pointer none), .v (.pointer none), .v (.string (⟨#[]⟩ : ByteArray))]) (by kernel_rfl) (by kernel_rfl) rfl Try.underlying114 rfl
theorem ty115 : TyOK Try.prog TT 115 ⟨.struct [(0, 17), (1, 17), (2, 17), (3, 9)], 4, 40⟩ := ty_ok (f := Try.t115) (by kernel_rfl) rfl rfl (.rc [.v (.pointer none), .v (.pointer none), .v (.pointer none), .v (.string (⟨#[]⟩ : ByteArray))]) (by kernel_rfl) (by kernel_rfl) rfl Try.underlying115 rfl
theorem ty116 : TyOK Try.prog TT 116 ⟨.array 0 16, 0, 0⟩ := ty_ok' (f := Try.t116) (by kernel_rfl) rfl rfl (by kernel_rfl) Try.underlying116 ⟨rfl, rfl⟩
theorem ty117 : TyOK Try.prog TT 117 ⟨.struct [(0, 116)], 0, 0⟩ := ty_ok' (f := Try.t117) (by kernel_rfl) rfl rfl (by kernel_rfl) Try.underlying117 rfl
theorem ty118 : TyOK Try.prog TT 118 ⟨.struct [(0, 116)], 0, 0⟩ := ty_ok' (f := Try.t118) (by kernel_rfl) rfl rfl (by kernel_rfl) Try.underlying118 rfl
theorem ty120 : TyOK Try.prog TT 120 ⟨.int .u32, 1, 4⟩ := ty_ok (f := Try.t120) (by kernel_rfl) rfl rfl (.v (.int .u32 0)) (by kernel_rfl) (by kernel_rfl) rfl Try.underlying120 rfl
theorem ty121 : TyOK Try.prog TT 121 ⟨.int .u8, 1, 1⟩ := ty_ok (f := Try.t121) (by kernel_rfl) rfl rfl (.v (.int .u8 0)) (by kernel_rfl) (by kernel_rfl) rfl Try.underlying121 rfl
theorem ty122 : TyOK Try.prog TT 122 ⟨.int .u8, 1, 1⟩ := ty_ok (f := Try.t122) (by kernel_rfl) rfl rfl (.v (.int .u8 0)) (by kernel_rfl) (by kernel_rfl) rfl Try.underlying122 rfl
theorem ty124 : TyOK Try.prog TT 124 ⟨.ptr 5, 1, 8⟩ := ty_ok (f := Try.t124) (by kernel_rfl) rfl rfl (.v (.pointer none)) (by kernel_rfl) (by kernel_rfl) rfl Try.underlying124 rfl
theorem ty125 : TyOK Try.prog TT 125 ⟨.int .i32, 1, 4⟩ := ty_ok (f := Try.t125) (by kernel_rfl) rfl rfl (.v (.int .i32 0)) (by kernel_rfl) (by kernel_rfl) rfl Try.underlying125 rfl
theorem ty126 : TyOK Try.prog TT 126 ⟨.int .i32, 1, 4⟩ := ty_ok (f := Try.t126) (by kernel_rfl) rfl rfl (.v (.int .i32 0)) (by kernel_rfl) (by kernel_rfl) rfl Try.underlying126 rfl
theorem tab : TabOK Try.prog TT := tab_of ⟨ty2, ty3, ty4, ty5, ty6, ty7, ty8, ty9, ty10, ty11, ty12, ty13, ty14, ty15, ty16, ty17, ty18, ty19, ty21, ty22, ty23, ty24, ty25, ty28, ty34, ty37, ty41, ty51, ty61, ty71, ty72, ty73, ty75, ty86, ty96, ty101, ty104, ty105, ty106, ty107, ty108, ty114, ty115, ty116, ty117, ty118, ty120, ty121, ty122, ty124, ty125, ty126, trivial⟩
theorem mix : Try.prog.follows .mixedOrders = true := by kernel_rfl
end Go.RR
