/- The types of the program at hand. -/
import Derived.Test.YtkohnhkehedflaaDoorRo
import Derived.Test.YtkohnhkehedflaaDoorChecked
set_option linter.unusedVariables false
namespace Go.RR
open Go Go.Proofs

def TT : Tab := [(2, ⟨.int .i64, 1, 8⟩),
  (3, ⟨.int .i64, 1, 8⟩),
  (4, ⟨.bool, 1, 1⟩),
  (5, ⟨.int .u8, 1, 1⟩),
  (9, ⟨.str, 1, 16⟩),
  (12, ⟨.int .u64, 1, 8⟩),
  (15, ⟨.ptr 134, 1, 8⟩),
  (16, ⟨.ptr 137, 1, 8⟩),
  (17, ⟨.ptr 145, 1, 8⟩),
  (21, ⟨.int .i32, 1, 4⟩),
  (22, ⟨.slice 2, 1, 24⟩),
  (28, ⟨.slice 48, 1, 24⟩),
  (30, ⟨.slice 48, 1, 24⟩),
  (38, ⟨.slice 63, 1, 24⟩),
  (41, ⟨.slice 61, 1, 24⟩),
  (48, ⟨.int .i16, 1, 2⟩),
  (49, ⟨.slice 9, 1, 24⟩),
  (58, ⟨.int .i8, 1, 1⟩),
  (59, ⟨.int .u16, 1, 2⟩),
  (60, ⟨.struct [(0, 58), (1, 59)], 2, 4⟩),
  (61, ⟨.struct [(0, 58), (1, 59)], 2, 4⟩),
  (63, ⟨.struct [(0, 58), (1, 59)], 2, 4⟩),
  (72, ⟨.ptr 75, 1, 8⟩),
  (73, ⟨.slice 5, 1, 24⟩),
  (74, ⟨.struct [(0, 72), (1, 73)], 2, 32⟩),
  (75, ⟨.struct [(0, 72), (1, 73)], 2, 32⟩),
  (83, ⟨.int .u64, 1, 8⟩),
  (90, ⟨.array 256 4, 256, 256⟩),
  (91, ⟨.array 256 4, 256, 256⟩),
  (95, ⟨.ptr 91, 1, 8⟩),
  (97, ⟨.ptr 5, 1, 8⟩),
  (101, ⟨.slice 3, 1, 24⟩),
  (108, ⟨.array 24 5, 24, 24⟩),
  (109, ⟨.int .u64, 1, 8⟩),
  (120, ⟨.array 20 109, 20, 160⟩),
  (121, ⟨.int .u32, 1, 4⟩),
  (122, ⟨.array 65 5, 65, 65⟩),
  (124, ⟨.array 256 5, 256, 256⟩),
  (125, ⟨.struct [(0, 5), (1, 5)], 2, 2⟩),
  (126, ⟨.struct [(0, 5), (1, 5)], 2, 2⟩),
  (127, ⟨.array 16 126, 32, 32⟩),
  (131, ⟨.array 32 5, 32, 32⟩),
  (132, ⟨.array 64 5, 64, 64⟩),
  (135, ⟨.array 0 16, 0, 0⟩)]
theorem ty2 : TyOK Tryd.prog TT 2 ⟨.int .i64, 1, 8⟩ := ty_ok (f := Tryd.t2) (by kernel_rfl) rfl rfl (.v (.int .i64 0)) (by kernel_rfl) (by kernel_rfl) rfl Tryd.underlying2 rfl (ag_no rfl)
theorem ty3 : TyOK Tryd.prog TT 3 ⟨.int .i64, 1, 8⟩ := ty_ok (f := Tryd.t3) (by kernel_rfl) rfl rfl (.v (.int .i64 0)) (by kernel_rfl) (by kernel_rfl) rfl Tryd.underlying3 rfl (ag_no rfl)
theorem ty4 : TyOK Tryd.prog TT 4 ⟨.bool, 1, 1⟩ := ty_ok (f := Tryd.t4) (by kernel_rfl) rfl rfl (.v (.bool false)) (by kernel_rfl) (by kernel_rfl) rfl Tryd.underlying4 trivial (ag_no rfl)
theorem ty5 : TyOK Tryd.prog TT 5 ⟨.int .u8, 1, 1⟩ := ty_ok (f := Tryd.t5) (by kernel_rfl) rfl rfl (.v (.int .u8 0)) (by kernel_rfl) (by kernel_rfl) rfl Tryd.underlying5 rfl (ag_no rfl)
theorem ty9 : TyOK Tryd.prog TT 9 ⟨.str, 1, 16⟩ := ty_ok (f := Tryd.t9) (by kernel_rfl) rfl rfl (.v (.string (⟨#[]⟩ : ByteArray))) (by kernel_rfl) (by kernel_rfl) rfl Tryd.underlying9 trivial (ag_no rfl)
theorem ty12 : TyOK Tryd.prog TT 12 ⟨.int .u64, 1, 8⟩ := ty_ok (f := Tryd.t12) (by kernel_rfl) rfl rfl (.v (.int .u64 0)) (by kernel_rfl) (by kernel_rfl) rfl Tryd.underlying12 rfl (ag_no rfl)
theorem ty15 : TyOK Tryd.prog TT 15 ⟨.ptr 134, 1, 8⟩ := ty_ok (f := Tryd.t15) (by kernel_rfl) rfl rfl (.v (.pointer none)) (by kernel_rfl) (by kernel_rfl) rfl Tryd.underlying15 rfl (ag_no rfl)
theorem ty16 : TyOK Tryd.prog TT 16 ⟨.ptr 137, 1, 8⟩ := ty_ok (f := Tryd.t16) (by kernel_rfl) rfl rfl (.v (.pointer none)) (by kernel_rfl) (by kernel_rfl) rfl Tryd.underlying16 rfl (ag_no rfl)
theorem ty17 : TyOK Tryd.prog TT 17 ⟨.ptr 145, 1, 8⟩ := ty_ok (f := Tryd.t17) (by kernel_rfl) rfl rfl (.v (.pointer none)) (by kernel_rfl) (by kernel_rfl) rfl Tryd.underlying17 rfl (ag_no rfl)
theorem ty21 : TyOK Tryd.prog TT 21 ⟨.int .i32, 1, 4⟩ := ty_ok (f := Tryd.t21) (by kernel_rfl) rfl rfl (.v (.int .i32 0)) (by kernel_rfl) (by kernel_rfl) rfl Tryd.underlying21 rfl (ag_no rfl)
theorem ty22 : TyOK Tryd.prog TT 22 ⟨.slice 2, 1, 24⟩ := ty_ok (f := Tryd.t22) (by kernel_rfl) rfl rfl (.nil (.one (.i .i64))) (by kernel_rfl) (by kernel_rfl) rfl Tryd.underlying22 rfl (ag_no rfl)
theorem ty28 : TyOK Tryd.prog TT 28 ⟨.slice 48, 1, 24⟩ := ty_ok (f := Tryd.t28) (by kernel_rfl) rfl rfl (.nil (.one (.i .i16))) (by kernel_rfl) (by kernel_rfl) rfl Tryd.underlying28 rfl (ag_no rfl)
theorem ty30 : TyOK Tryd.prog TT 30 ⟨.slice 48, 1, 24⟩ := ty_ok (f := Tryd.t30) (by kernel_rfl) rfl rfl (.nil (.one (.i .i16))) (by kernel_rfl) (by kernel_rfl) rfl Tryd.underlying30 rfl (ag_no rfl)
theorem ty38 : TyOK Tryd.prog TT 38 ⟨.slice 63, 1, 24⟩ := ty_ok (f := Tryd.t38) (by kernel_rfl) rfl rfl (.nil (.st [(.i .i8), (.i .u16)])) (by kernel_rfl) (by kernel_rfl) rfl Tryd.underlying38 rfl (ag_no rfl)
theorem ty41 : TyOK Tryd.prog TT 41 ⟨.slice 61, 1, 24⟩ := ty_ok (f := Tryd.t41) (by kernel_rfl) rfl rfl (.nil (.st [(.i .i8), (.i .u16)])) (by kernel_rfl) (by kernel_rfl) rfl Tryd.underlying41 rfl (ag_no rfl)
theorem ty48 : TyOK Tryd.prog TT 48 ⟨.int .i16, 1, 2⟩ := ty_ok (f := Tryd.t48) (by kernel_rfl) rfl rfl (.v (.int .i16 0)) (by kernel_rfl) (by kernel_rfl) rfl Tryd.underlying48 rfl (ag_no rfl)
theorem ty49 : TyOK Tryd.prog TT 49 ⟨.slice 9, 1, 24⟩ := ty_ok (f := Tryd.t49) (by kernel_rfl) rfl rfl (.nil (.one .s)) (by kernel_rfl) (by kernel_rfl) rfl Tryd.underlying49 rfl (ag_no rfl)
theorem ty58 : TyOK Tryd.prog TT 58 ⟨.int .i8, 1, 1⟩ := ty_ok (f := Tryd.t58) (by kernel_rfl) rfl rfl (.v (.int .i8 0)) (by kernel_rfl) (by kernel_rfl) rfl Tryd.underlying58 rfl (ag_no rfl)
theorem ty59 : TyOK Tryd.prog TT 59 ⟨.int .u16, 1, 2⟩ := ty_ok (f := Tryd.t59) (by kernel_rfl) rfl rfl (.v (.int .u16 0)) (by kernel_rfl) (by kernel_rfl) rfl Tryd.underlying59 rfl (ag_no rfl)
theorem ty60 : TyOK Tryd.prog TT 60 ⟨.struct [(0, 58), (1, 59)], 2, 4⟩ := ty_ok (f := Tryd.t60) (by kernel_rfl) rfl rfl (.rc [.v (.int .i8 0), .v (.int .u16 0)]) (by kernel_rfl) (by kernel_rfl) rfl Tryd.underlying60 rfl (ag_ok (by kernel_rfl) (by kernel_rfl) (fun ds h => by cases (Tryd.underlying60.symm.trans h) <;> rfl))
theorem ty61 : TyOK Tryd.prog TT 61 ⟨.struct [(0, 58), (1, 59)], 2, 4⟩ := ty_ok (f := Tryd.t61) (by kernel_rfl) rfl rfl (.rc [.v (.int .i8 0), .v (.int .u16 0)]) (by kernel_rfl) (by kernel_rfl) rfl Tryd.underlying61 rfl (ag_ok (by kernel_rfl) (by kernel_rfl) (fun ds h => by cases (Tryd.underlying61.symm.trans h) <;> rfl))
theorem ty63 : TyOK Tryd.prog TT 63 ⟨.struct [(0, 58), (1, 59)], 2, 4⟩ := ty_ok (f := Tryd.t63) (by kernel_rfl) rfl rfl (.rc [.v (.int .i8 0), .v (.int .u16 0)]) (by kernel_rfl) (by kernel_rfl) rfl Tryd.underlying63 rfl (ag_ok (by kernel_rfl) (by kernel_rfl) (fun ds h => by cases (Tryd.underlying63.symm.trans h) <;> rfl))
theorem ty72 : TyOK Tryd.prog TT 72 ⟨.ptr 75, 1, 8⟩ := ty_ok (f := Tryd.t72) (by kernel_rfl) rfl rfl (.v (.pointer none)) (by kernel_rfl) (by kernel_rfl) rfl Tryd.underlying72 rfl (ag_no rfl)
theorem ty73 : TyOK Tryd.prog TT 73 ⟨.slice 5, 1, 24⟩ := ty_ok (f := Tryd.t73) (by kernel_rfl) rfl rfl (.nil (.one (.i .u8))) (by kernel_rfl) (by kernel_rfl) rfl Tryd.underlying73 rfl (ag_no rfl)
theorem ty74 : TyOK Tryd.prog TT 74 ⟨.struct [(0, 72), (1, 73)], 2, 32⟩ := ty_ok (f := Tryd.t74) (by kernel_rfl) rfl rfl (.rc [.v (.pointer none), .nil (.one (.i .u8))]) (by kernel_rfl) (by kernel_rfl) rfl Tryd.underlying74 rfl (ag_ok (by kernel_rfl) (by kernel_rfl) (fun ds h => by cases (Tryd.underlying74.symm.trans h) <;> rfl))
theorem ty75 : TyOK Tryd.prog TT 75 ⟨.struct [(0, 72), (1, 73)], 2, 32⟩ := ty_ok (f := Tryd.t75) (by kernel_rfl) rfl rfl (.rc [.v (.pointer none), .nil (.one (.i .u8))]) (by kernel_rfl) (by kernel_rfl) rfl Tryd.underlying75 rfl (ag_ok (by kernel_rfl) (by kernel_rfl) (fun ds h => by cases (Tryd.underlying75.symm.trans h) <;> rfl))
theorem ty83 : TyOK Tryd.prog TT 83 ⟨.int .u64, 1, 8⟩ := ty_ok (f := Tryd.t83) (by kernel_rfl) rfl rfl (.v (.int .u64 0)) (by kernel_rfl) (by kernel_rfl) rfl Tryd.underlying83 rfl (ag_no rfl)
theorem ty90 : TyOK Tryd.prog TT 90 ⟨.array 256 4, 256, 256⟩ := ty_ok (f := Tryd.t90) (by kernel_rfl) rfl rfl (.fb 256 zB) (by kernel_rfl) (by kernel_rfl) rfl Tryd.underlying90 ⟨rfl, rfl⟩ (ag_ok (by kernel_rfl) (by kernel_rfl) (fun ds h => by cases (Tryd.underlying90.symm.trans h) <;> rfl))
theorem ty91 : TyOK Tryd.prog TT 91 ⟨.array 256 4, 256, 256⟩ := ty_ok (f := Tryd.t91) (by kernel_rfl) rfl rfl (.fb 256 zB) (by kernel_rfl) (by kernel_rfl) rfl Tryd.underlying91 ⟨rfl, rfl⟩ (ag_ok (by kernel_rfl) (by kernel_rfl) (fun ds h => by cases (Tryd.underlying91.symm.trans h) <;> rfl))
theorem ty95 : TyOK Tryd.prog TT 95 ⟨.ptr 91, 1, 8⟩ := ty_ok (f := Tryd.t95) (by kernel_rfl) rfl rfl (.v (.pointer none)) (by kernel_rfl) (by kernel_rfl) rfl Tryd.underlying95 rfl (ag_no rfl)
theorem ty97 : TyOK Tryd.prog TT 97 ⟨.ptr 5, 1, 8⟩ := ty_ok (f := Tryd.t97) (by kernel_rfl) rfl rfl (.v (.pointer none)) (by kernel_rfl) (by kernel_rfl) rfl Tryd.underlying97 rfl (ag_no rfl)
theorem ty101 : TyOK Tryd.prog TT 101 ⟨.slice 3, 1, 24⟩ := ty_ok (f := Tryd.t101) (by kernel_rfl) rfl rfl (.nil (.one (.i .i64))) (by kernel_rfl) (by kernel_rfl) rfl Tryd.underlying101 rfl (ag_no rfl)
theorem ty108 : TyOK Tryd.prog TT 108 ⟨.array 24 5, 24, 24⟩ := ty_ok (f := Tryd.t108) (by kernel_rfl) rfl rfl (.fa 24 .u8 zF) (by kernel_rfl) (by kernel_rfl) rfl Tryd.underlying108 ⟨rfl, rfl⟩ (ag_ok (by kernel_rfl) (by kernel_rfl) (fun ds h => by cases (Tryd.underlying108.symm.trans h) <;> rfl))
theorem ty109 : TyOK Tryd.prog TT 109 ⟨.int .u64, 1, 8⟩ := ty_ok (f := Tryd.t109) (by kernel_rfl) rfl rfl (.v (.int .u64 0)) (by kernel_rfl) (by kernel_rfl) rfl Tryd.underlying109 rfl (ag_no rfl)
theorem ty120 : TyOK Tryd.prog TT 120 ⟨.array 20 109, 20, 160⟩ := ty_ok (f := Tryd.t120) (by kernel_rfl) rfl rfl (.fa 20 .u64 zF) (by kernel_rfl) (by kernel_rfl) rfl Tryd.underlying120 ⟨rfl, rfl⟩ (ag_ok (by kernel_rfl) (by kernel_rfl) (fun ds h => by cases (Tryd.underlying120.symm.trans h) <;> rfl))
theorem ty121 : TyOK Tryd.prog TT 121 ⟨.int .u32, 1, 4⟩ := ty_ok (f := Tryd.t121) (by kernel_rfl) rfl rfl (.v (.int .u32 0)) (by kernel_rfl) (by kernel_rfl) rfl Tryd.underlying121 rfl (ag_no rfl)
theorem ty122 : TyOK Tryd.prog TT 122 ⟨.array 65 5, 65, 65⟩ := ty_ok (f := Tryd.t122) (by kernel_rfl) rfl rfl (.fa 65 .u8 zF) (by kernel_rfl) (by kernel_rfl) rfl Tryd.underlying122 ⟨rfl, rfl⟩ (ag_ok (by kernel_rfl) (by kernel_rfl) (fun ds h => by cases (Tryd.underlying122.symm.trans h) <;> rfl))
theorem ty124 : TyOK Tryd.prog TT 124 ⟨.array 256 5, 256, 256⟩ := ty_ok (f := Tryd.t124) (by kernel_rfl) rfl rfl (.fa 256 .u8 zF) (by kernel_rfl) (by kernel_rfl) rfl Tryd.underlying124 ⟨rfl, rfl⟩ (ag_ok (by kernel_rfl) (by kernel_rfl) (fun ds h => by cases (Tryd.underlying124.symm.trans h) <;> rfl))
theorem ty125 : TyOK Tryd.prog TT 125 ⟨.struct [(0, 5), (1, 5)], 2, 2⟩ := ty_ok (f := Tryd.t125) (by kernel_rfl) rfl rfl (.rc [.v (.int .u8 0), .v (.int .u8 0)]) (by kernel_rfl) (by kernel_rfl) rfl Tryd.underlying125 rfl (ag_ok (by kernel_rfl) (by kernel_rfl) (fun ds h => by cases (Tryd.underlying125.symm.trans h) <;> rfl))
theorem ty126 : TyOK Tryd.prog TT 126 ⟨.struct [(0, 5), (1, 5)], 2, 2⟩ := ty_ok (f := Tryd.t126) (by kernel_rfl) rfl rfl (.rc [.v (.int .u8 0), .v (.int .u8 0)]) (by kernel_rfl) (by kernel_rfl) rfl Tryd.underlying126 rfl (ag_ok (by kernel_rfl) (by kernel_rfl) (fun ds h => by cases (Tryd.underlying126.symm.trans h) <;> rfl))
theorem ty127 : TyOK Tryd.prog TT 127 ⟨.array 16 126, 32, 32⟩ := ty_ok' (f := Tryd.t127) (by kernel_rfl) rfl rfl (by kernel_rfl) Tryd.underlying127 ⟨rfl, rfl⟩ (ag_ok (by kernel_rfl) (by kernel_rfl) (fun ds h => by cases (Tryd.underlying127.symm.trans h) <;> rfl))
theorem ty131 : TyOK Tryd.prog TT 131 ⟨.array 32 5, 32, 32⟩ := ty_ok (f := Tryd.t131) (by kernel_rfl) rfl rfl (.fa 32 .u8 zF) (by kernel_rfl) (by kernel_rfl) rfl Tryd.underlying131 ⟨rfl, rfl⟩ (ag_ok (by kernel_rfl) (by kernel_rfl) (fun ds h => by cases (Tryd.underlying131.symm.trans h) <;> rfl))
theorem ty132 : TyOK Tryd.prog TT 132 ⟨.array 64 5, 64, 64⟩ := ty_ok (f := Tryd.t132) (by kernel_rfl) rfl rfl (.fa 64 .u8 zF) (by kernel_rfl) (by kernel_rfl) rfl Tryd.underlying132 ⟨rfl, rfl⟩ (ag_ok (by kernel_rfl) (by kernel_rfl) (fun ds h => by cases (Tryd.underlying132.symm.trans h) <;> rfl))
theorem ty135 : TyOK Tryd.prog TT 135 ⟨.array 0 16, 0, 0⟩ := ty_ok' (f := Tryd.t135) (by kernel_rfl) rfl rfl (by kernel_rfl) Tryd.underlying135 ⟨rfl, rfl⟩ (ag_ok (by kernel_rfl) (by kernel_rfl) (fun ds h => by cases (Tryd.underlying135.symm.trans h) <;> rfl))
theorem tab : TabOK Tryd.prog TT := tab_of ⟨ty2, ty3, ty4, ty5, ty9, ty12, ty15, ty16, ty17, ty21, ty22, ty28, ty30, ty38, ty41, ty48, ty49, ty58, ty59, ty60, ty61, ty63, ty72, ty73, ty74, ty75, ty83, ty90, ty91, ty95, ty97, ty101, ty108, ty109, ty120, ty121, ty122, ty124, ty125, ty126, ty127, ty131, ty132, ty135, trivial⟩
theorem mix : Tryd.prog.follows .mixedOrders = true := by kernel_rfl
end Go.RR
