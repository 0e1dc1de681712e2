/- The types of the program at hand. -/
import Derived.Test.YtbmaolhjplapoaaGreatDoorRo
import Derived.Test.YtbmaolhjplapoaaGreatDoorChecked
set_option linter.unusedVariables false
namespace Go.RR
open Go Go.Proofs
def TT : Tab := [(2, ⟨.int .i64, 1, 8⟩),
 (3, ⟨.int .i64, 1, 8⟩),
 (4, ⟨.bool, 1, 1⟩),
 (5, ⟨.int .u8, 1, 1⟩),
 (9, ⟨.str, 1, 16⟩),
 (12, ⟨.int .u64, 1, 8⟩),
 (15, ⟨.ptr 277, 1, 8⟩),
 (16, ⟨.ptr 280, 1, 8⟩),
 (17, ⟨.ptr 288, 1, 8⟩),
 (21, ⟨.int .i32, 1, 4⟩),
 (22, ⟨.slice 5, 1, 24⟩),
 (24, ⟨.slice 38, 1, 24⟩),
 (25, ⟨.slice 38, 1, 24⟩),
 (33, ⟨.slice 40, 1, 24⟩),
 (38, ⟨.int .i16, 1, 2⟩),
 (39, ⟨.struct [(0, 38), (1, 38)], 2, 4⟩),
 (40, ⟨.struct [(0, 38), (1, 38)], 2, 4⟩),
 (42, ⟨.slice 2, 1, 24⟩),
 (53, ⟨.slice 42, 1, 24⟩),
 (68, ⟨.slice 87, 1, 24⟩),
 (75, ⟨.slice 83, 1, 24⟩),
 (83, ⟨.int .u16, 1, 2⟩),
 (84, ⟨.int .u64, 1, 8⟩),
 (85, ⟨.int .i8, 1, 1⟩),
 (86, ⟨.struct [(0, 85), (1, 83)], 2, 4⟩),
 (87, ⟨.struct [(0, 85), (1, 83)], 2, 4⟩),
 (90, ⟨.array 144 5, 144, 144⟩),
 (91, ⟨.struct [(0, 85), (1, 85), (2, 90)], 146, 146⟩),
 (92, ⟨.struct [(0, 85), (1, 85), (2, 90)], 146, 146⟩),
 (96, ⟨.ptr 174, 1, 8⟩),
 (98, ⟨.slice 9, 1, 24⟩),
 (114, ⟨.slice 3, 1, 24⟩),
 (129, ⟨.ptr 131, 1, 8⟩),
 (130, ⟨.struct [(0, 2), (1, 2), (2, 42), (3, 42), (4, 53), (5, 53), (6, 4), (7, 2), (8, 2)], 9, 136⟩),
 (131, ⟨.struct [(0, 2), (1, 2), (2, 42), (3, 42), (4, 53), (5, 53), (6, 4), (7, 2), (8, 2)], 9, 136⟩),
 (133, ⟨.ptr 135, 1, 8⟩),
 (134, ⟨.struct [(0, 2), (1, 2), (2, 42), (3, 42), (4, 2), (5, 2), (6, 4), (7, 4), (8, 53)], 9, 112⟩),
 (135, ⟨.struct [(0, 2), (1, 2), (2, 42), (3, 42), (4, 2), (5, 2), (6, 4), (7, 4), (8, 53)], 9, 112⟩),
 (141, ⟨.ptr 143, 1, 8⟩),
 (142, ⟨.struct [(0, 141), (1, 22)], 2, 32⟩),
 (143, ⟨.struct [(0, 141), (1, 22)], 2, 32⟩),
 (168, ⟨.ptr 92, 1, 8⟩),
 (170, ⟨.array 144 3, 144, 1152⟩),
 (172, ⟨.int .u64, 1, 8⟩),
 (173, ⟨.struct [(0, 22), (1, 3), (2, 172)], 3, 40⟩),
 (174, ⟨.struct [(0, 22), (1, 3), (2, 172)], 3, 40⟩),
 (189, ⟨.ptr 5, 1, 8⟩),
 (194, ⟨.array 144 4, 144, 144⟩),
 (199, ⟨.ptr 194, 1, 8⟩),
 (203, ⟨.int .u32, 1, 4⟩),
 (215, ⟨.array 2 2, 2, 16⟩),
 (216, ⟨.array 4 215, 8, 64⟩),
 (224, ⟨.ptr 243, 1, 8⟩),
 (228, ⟨.array 24 5, 24, 24⟩),
 (246, ⟨.array 20 172, 20, 160⟩),
 (247, ⟨.array 65 5, 65, 65⟩),
 (249, ⟨.int .i64, 1, 8⟩),
 (257, ⟨.array 256 5, 256, 256⟩),
 (258, ⟨.struct [(0, 5), (1, 5)], 2, 2⟩),
 (259, ⟨.struct [(0, 5), (1, 5)], 2, 2⟩),
 (260, ⟨.array 16 259, 32, 32⟩),
 (262, ⟨.ptr 264, 1, 8⟩),
 (263, ⟨.struct [(0, 9)], 1, 16⟩),
 (264, ⟨.struct [(0, 9)], 1, 16⟩),
 (265, ⟨.int .u64, 1, 8⟩),
 (269, ⟨.ptr 3, 1, 8⟩),
 (271, ⟨.array 32 5, 32, 32⟩),
 (272, ⟨.array 64 5, 64, 64⟩),
 (273, ⟨.ptr 265, 1, 8⟩),
 (278, ⟨.array 0 16, 0, 0⟩)]
theorem ty2 : TyOK Tryz.prog TT 2 ⟨.int .i64, 1, 8⟩ := ty_ok (f := Tryz.t2) (by kernel_rfl) rfl rfl (.v (.int .i64 0)) (by kernel_rfl) (by kernel_rfl) rfl Tryz.underlying2 rfl (ag_no rfl)
theorem ty3 : TyOK Tryz.prog TT 3 ⟨.int .i64, 1, 8⟩ := ty_ok (f := Tryz.t3) (by kernel_rfl) rfl rfl (.v (.int .i64 0)) (by kernel_rfl) (by kernel_rfl) rfl Tryz.underlying3 rfl (ag_no rfl)
theorem ty4 : TyOK Tryz.prog TT 4 ⟨.bool, 1, 1⟩ := ty_ok (f := Tryz.t4) (by kernel_rfl) rfl rfl (.v (.bool false)) (by kernel_rfl) (by kernel_rfl) rfl Tryz.underlying4 trivial (ag_no rfl)
theorem ty5 : TyOK Tryz.prog TT 5 ⟨.int .u8, 1, 1⟩ := ty_ok (f := Tryz.t5) (by kernel_rfl) rfl rfl (.v (.int .u8 0)) (by kernel_rfl) (by kernel_rfl) rfl Tryz.underlying5 rfl (ag_no rfl)
theorem ty9 : TyOK Tryz.prog TT 9 ⟨.str, 1, 16⟩ := ty_ok (f := Tryz.t9) (by kernel_rfl) rfl rfl (.v (.string (⟨#[]⟩ : ByteArray))) (by kernel_rfl) (by kernel_rfl) rfl Tryz.underlying9 trivial (ag_no rfl)
theorem ty12 : TyOK Tryz.prog TT 12 ⟨.int .u64, 1, 8⟩ := ty_ok (f := Tryz.t12) (by kernel_rfl) rfl rfl (.v (.int .u64 0)) (by kernel_rfl) (by kernel_rfl) rfl Tryz.underlying12 rfl (ag_no rfl)
theorem ty15 : TyOK Tryz.prog TT 15 ⟨.ptr 277, 1, 8⟩ := ty_ok (f := Tryz.t15) (by kernel_rfl) rfl rfl (.v (.pointer none)) (by kernel_rfl) (by kernel_rfl) rfl Tryz.underlying15 rfl (ag_no rfl)
theorem ty16 : TyOK Tryz.prog TT 16 ⟨.ptr 280, 1, 8⟩ := ty_ok (f := Tryz.t16) (by kernel_rfl) rfl rfl (.v (.pointer none)) (by kernel_rfl) (by kernel_rfl) rfl Tryz.underlying16 rfl (ag_no rfl)
theorem ty17 : TyOK Tryz.prog TT 17 ⟨.ptr 288, 1, 8⟩ := ty_ok (f := Tryz.t17) (by kernel_rfl) rfl rfl (.v (.pointer none)) (by kernel_rfl) (by kernel_rfl) rfl Tryz.underlying17 rfl (ag_no rfl)
theorem ty21 : TyOK Tryz.prog TT 21 ⟨.int .i32, 1, 4⟩ := ty_ok (f := Tryz.t21) (by kernel_rfl) rfl rfl (.v (.int .i32 0)) (by kernel_rfl) (by kernel_rfl) rfl Tryz.underlying21 rfl (ag_no rfl)
theorem ty22 : TyOK Tryz.prog TT 22 ⟨.slice 5, 1, 24⟩ := ty_ok (f := Tryz.t22) (by kernel_rfl) rfl rfl (.nil (.one (.i .u8))) (by kernel_rfl) (by kernel_rfl) rfl Tryz.underlying22 rfl (ag_no rfl)
theorem ty24 : TyOK Tryz.prog TT 24 ⟨.slice 38, 1, 24⟩ := ty_ok (f := Tryz.t24) (by kernel_rfl) rfl rfl (.nil (.one (.i .i16))) (by kernel_rfl) (by kernel_rfl) rfl Tryz.underlying24 rfl (ag_no rfl)
theorem ty25 : TyOK Tryz.prog TT 25 ⟨.slice 38, 1, 24⟩ := ty_ok (f := Tryz.t25) (by kernel_rfl) rfl rfl (.nil (.one (.i .i16))) (by kernel_rfl) (by kernel_rfl) rfl Tryz.underlying25 rfl (ag_no rfl)
theorem ty33 : TyOK Tryz.prog TT 33 ⟨.slice 40, 1, 24⟩ := ty_ok (f := Tryz.t33) (by kernel_rfl) rfl rfl (.nil (.st [(.i .i16), (.i .i16)])) (by kernel_rfl) (by kernel_rfl) rfl Tryz.underlying33 rfl (ag_no rfl)
theorem ty38 : TyOK Tryz.prog TT 38 ⟨.int .i16, 1, 2⟩ := ty_ok (f := Tryz.t38) (by kernel_rfl) rfl rfl (.v (.int .i16 0)) (by kernel_rfl) (by kernel_rfl) rfl Tryz.underlying38 rfl (ag_no rfl)
theorem ty39 : TyOK Tryz.prog TT 39 ⟨.struct [(0, 38), (1, 38)], 2, 4⟩ := ty_ok (f := Tryz.t39) (by kernel_rfl) rfl rfl (.rc [.v (.int .i16 0), .v (.int .i16 0)]) (by kernel_rfl) (by kernel_rfl) rfl Tryz.underlying39 rfl (ag_ok (by kernel_rfl) (by kernel_rfl) (fun ds h => by cases (Tryz.underlying39.symm.trans h) <;> rfl))
theorem ty40 : TyOK Tryz.prog TT 40 ⟨.struct [(0, 38), (1, 38)], 2, 4⟩ := ty_ok (f := Tryz.t40) (by kernel_rfl) rfl rfl (.rc [.v (.int .i16 0), .v (.int .i16 0)]) (by kernel_rfl) (by kernel_rfl) rfl Tryz.underlying40 rfl (ag_ok (by kernel_rfl) (by kernel_rfl) (fun ds h => by cases (Tryz.underlying40.symm.trans h) <;> rfl))
theorem ty42 : TyOK Tryz.prog TT 42 ⟨.slice 2, 1, 24⟩ := ty_ok (f := Tryz.t42) (by kernel_rfl) rfl rfl (.nil (.one (.i .i64))) (by kernel_rfl) (by kernel_rfl) rfl Tryz.underlying42 rfl (ag_no rfl)
theorem ty53 : TyOK Tryz.prog TT 53 ⟨.slice 42, 1, 24⟩ := ty_ok (f := Tryz.t53) (by kernel_rfl) rfl rfl (.nil (.one (.ls .i64))) (by kernel_rfl) (by kernel_rfl) rfl Tryz.underlying53 rfl (ag_no rfl)
theorem ty68 : TyOK Tryz.prog TT 68 ⟨.slice 87, 1, 24⟩ := ty_ok (f := Tryz.t68) (by kernel_rfl) rfl rfl (.nil (.st [(.i .i8), (.i .u16)])) (by kernel_rfl) (by kernel_rfl) rfl Tryz.underlying68 rfl (ag_no rfl)
theorem ty75 : TyOK Tryz.prog TT 75 ⟨.slice 83, 1, 24⟩ := ty_ok (f := Tryz.t75) (by kernel_rfl) rfl rfl (.nil (.one (.i .u16))) (by kernel_rfl) (by kernel_rfl) rfl Tryz.underlying75 rfl (ag_no rfl)
theorem ty83 : TyOK Tryz.prog TT 83 ⟨.int .u16, 1, 2⟩ := ty_ok (f := Tryz.t83) (by kernel_rfl) rfl rfl (.v (.int .u16 0)) (by kernel_rfl) (by kernel_rfl) rfl Tryz.underlying83 rfl (ag_no rfl)
theorem ty84 : TyOK Tryz.prog TT 84 ⟨.int .u64, 1, 8⟩ := ty_ok (f := Tryz.t84) (by kernel_rfl) rfl rfl (.v (.int .u64 0)) (by kernel_rfl) (by kernel_rfl) rfl Tryz.underlying84 rfl (ag_no rfl)
theorem ty85 : TyOK Tryz.prog TT 85 ⟨.int .i8, 1, 1⟩ := ty_ok (f := Tryz.t85) (by kernel_rfl) rfl rfl (.v (.int .i8 0)) (by kernel_rfl) (by kernel_rfl) rfl Tryz.underlying85 rfl (ag_no rfl)
theorem ty86 : TyOK Tryz.prog TT 86 ⟨.struct [(0, 85), (1, 83)], 2, 4⟩ := ty_ok (f := Tryz.t86) (by kernel_rfl) rfl rfl (.rc [.v (.int .i8 0), .v (.int .u16 0)]) (by kernel_rfl) (by kernel_rfl) rfl Tryz.underlying86 rfl (ag_ok (by kernel_rfl) (by kernel_rfl) (fun ds h => by cases (Tryz.underlying86.symm.trans h) <;> rfl))
theorem ty87 : TyOK Tryz.prog TT 87 ⟨.struct [(0, 85), (1, 83)], 2, 4⟩ := ty_ok (f := Tryz.t87) (by kernel_rfl) rfl rfl (.rc [.v (.int .i8 0), .v (.int .u16 0)]) (by kernel_rfl) (by kernel_rfl) rfl Tryz.underlying87 rfl (ag_ok (by kernel_rfl) (by kernel_rfl) (fun ds h => by cases (Tryz.underlying87.symm.trans h) <;> rfl))
theorem ty90 : TyOK Tryz.prog TT 90 ⟨.array 144 5, 144, 144⟩ := ty_ok (f := Tryz.t90) (by kernel_rfl) rfl rfl (.fa 144 .u8 zF) (by kernel_rfl) (by kernel_rfl) rfl Tryz.underlying90 ⟨rfl, rfl⟩ (ag_ok (by kernel_rfl) (by kernel_rfl) (fun ds h => by cases (Tryz.underlying90.symm.trans h) <;> rfl))
theorem ty91 : TyOK Tryz.prog TT 91 ⟨.struct [(0, 85), (1, 85), (2, 90)], 146, 146⟩ := ty_ok (f := Tryz.t91) (by kernel_rfl) rfl rfl (.rc [.v (.int .i8 0), .v (.int .i8 0), .fa 144 .u8 zF]) (by kernel_rfl) (by kernel_rfl) rfl Tryz.underlying91 rfl (ag_ok (by kernel_rfl) (by kernel_rfl) (fun ds h => by cases (Tryz.underlying91.symm.trans h) <;> rfl))
theorem ty92 : TyOK Tryz.prog TT 92 ⟨.struct [(0, 85), (1, 85), (2, 90)], 146, 146⟩ := ty_ok (f := Tryz.t92) (by kernel_rfl) rfl rfl (.rc [.v (.int .i8 0), .v (.int .i8 0), .fa 144 .u8 zF]) (by kernel_rfl) (by kernel_rfl) rfl Tryz.underlying92 rfl (ag_ok (by kernel_rfl) (by kernel_rfl) (fun ds h => by cases (Tryz.underlying92.symm.trans h) <;> rfl))
theorem ty96 : TyOK Tryz.prog TT 96 ⟨.ptr 174, 1, 8⟩ := ty_ok (f := Tryz.t96) (by kernel_rfl) rfl rfl (.v (.pointer none)) (by kernel_rfl) (by kernel_rfl) rfl Tryz.underlying96 rfl (ag_no rfl)
theorem ty98 : TyOK Tryz.prog TT 98 ⟨.slice 9, 1, 24⟩ := ty_ok (f := Tryz.t98) (by kernel_rfl) rfl rfl (.nil (.one .s)) (by kernel_rfl) (by kernel_rfl) rfl Tryz.underlying98 rfl (ag_no rfl)
theorem ty114 : TyOK Tryz.prog TT 114 ⟨.slice 3, 1, 24⟩ := ty_ok (f := Tryz.t114) (by kernel_rfl) rfl rfl (.nil (.one (.i .i64))) (by kernel_rfl) (by kernel_rfl) rfl Tryz.underlying114 rfl (ag_no rfl)
theorem ty129 : TyOK Tryz.prog TT 129 ⟨.ptr 131, 1, 8⟩ := ty_ok (f := Tryz.t129) (by kernel_rfl) rfl rfl (.v (.pointer none)) (by kernel_rfl) (by kernel_rfl) rfl Tryz.underlying129 rfl (ag_no rfl)
theorem ty130 : TyOK Tryz.prog TT 130 ⟨.struct [(0, 2), (1, 2), (2, 42), (3, 42), (4, 53), (5, 53), (6, 4), (7, 2), (8, 2)], 9, 136⟩ := ty_ok (f := Tryz.t130) (by kernel_rfl) rfl rfl (.rc [.v (.int .i64 0), .v (.int .i64 0), .nil (.one (.i .i64)), .nil (.one (.i .i64)), .nil (.one (.ls .i64)), .nil (.one (.ls .i64)), .v (.bool false), .v (.int .i64 0), .v (.int .i64 0)]) (by kernel_rfl) (by kernel_rfl) rfl Tryz.underlying130 rfl (ag_ok (by kernel_rfl) (by kernel_rfl) (fun ds h => by cases (Tryz.underlying130.symm.trans h) <;> rfl))
theorem ty131 : TyOK Tryz.prog TT 131 ⟨.struct [(0, 2), (1, 2), (2, 42), (3, 42), (4, 53), (5, 53), (6, 4), (7, 2), (8, 2)], 9, 136⟩ := ty_ok (f := Tryz.t131) (by kernel_rfl) rfl rfl (.rc [.v (.int .i64 0), .v (.int .i64 0), .nil (.one (.i .i64)), .nil (.one (.i .i64)), .nil (.one (.ls .i64)), .nil (.one (.ls .i64)), .v (.bool false), .v (.int .i64 0), .v (.int .i64 0)]) (by kernel_rfl) (by kernel_rfl) rfl Tryz.underlying131 rfl (ag_ok (by kernel_rfl) (by kernel_rfl) (fun ds h => by cases (Tryz.underlying131.symm.trans h) <;> rfl))
theorem ty133 : TyOK Tryz.prog TT 133 ⟨.ptr 135, 1, 8⟩ := ty_ok (f := Tryz.t133) (by kernel_rfl) rfl rfl (.v (.pointer none)) (by kernel_rfl) (by kernel_rfl) rfl Tryz.underlying133 rfl (ag_no rfl)
theorem ty134 : TyOK Tryz.prog TT 134 ⟨.struct [(0, 2), (1, 2), (2, 42), (3, 42), (4, 2), (5, 2), (6, 4), (7, 4), (8, 53)], 9, 112⟩ := ty_ok (f := Tryz.t134) (by kernel_rfl) rfl rfl (.rc [.v (.int .i64 0), .v (.int .i64 0), .nil (.one (.i .i64)), .nil (.one (.i .i64)), .v (.int .i64 0), .v (.int .i64 0), .v (.bool false), .v (.bool false), .nil (.one (.ls .i64))]) (by kernel_rfl) (by kernel_rfl) rfl Tryz.underlying134 rfl (ag_ok (by kernel_rfl) (by kernel_rfl) (fun ds h => by cases (Tryz.underlying134.symm.trans h) <;> rfl))
theorem ty135 : TyOK Tryz.prog TT 135 ⟨.struct [(0, 2), (1, 2), (2, 42), (3, 42), (4, 2), (5, 2), (6, 4), (7, 4), (8, 53)], 9, 112⟩ := ty_ok (f := Tryz.t135) (by kernel_rfl) rfl rfl (.rc [.v (.int .i64 0), .v (.int .i64 0), .nil (.one (.i .i64)), .nil (.one (.i .i64)), .v (.int .i64 0), .v (.int .i64 0), .v (.bool false), .v (.bool false), .nil (.one (.ls .i64))]) (by kernel_rfl) (by kernel_rfl) rfl Tryz.underlying135 rfl (ag_ok (by kernel_rfl) (by kernel_rfl) (fun ds h => by cases (Tryz.underlying135.symm.trans h) <;> rfl))
theorem ty141 : TyOK Tryz.prog TT 141 ⟨.ptr 143, 1, 8⟩ := ty_ok (f := Tryz.t141) (by kernel_rfl) rfl rfl (.v (.pointer none)) (by kernel_rfl) (by kernel_rfl) rfl Tryz.underlying141 rfl (ag_no rfl)
theorem ty142 : TyOK Tryz.prog TT 142 ⟨.struct [(0, 141), (1, 22)], 2, 32⟩ := ty_ok (f := Tryz.t142) (by kernel_rfl) rfl rfl (.rc [.v (.pointer none), .nil (.one (.i .u8))]) (by kernel_rfl) (by kernel_rfl) rfl Tryz.underlying142 rfl (ag_ok (by kernel_rfl) (by kernel_rfl) (fun ds h => by cases (Tryz.underlying142.symm.trans h) <;> rfl))
theorem ty143 : TyOK Tryz.prog TT 143 ⟨.struct [(0, 141), (1, 22)], 2, 32⟩ := ty_ok (f := Tryz.t143) (by kernel_rfl) rfl rfl (.rc [.v (.pointer none), .nil (.one (.i .u8))]) (by kernel_rfl) (by kernel_rfl) rfl Tryz.underlying143 rfl (ag_ok (by kernel_rfl) (by kernel_rfl) (fun ds h => by cases (Tryz.underlying143.symm.trans h) <;> rfl))
theorem ty168 : TyOK Tryz.prog TT 168 ⟨.ptr 92, 1, 8⟩ := ty_ok (f := Tryz.t168) (by kernel_rfl) rfl rfl (.v (.pointer none)) (by kernel_rfl) (by kernel_rfl) rfl Tryz.underlying168 rfl (ag_no rfl)
theorem ty170 : TyOK Tryz.prog TT 170 ⟨.array 144 3, 144, 1152⟩ := ty_ok (f := Tryz.t170) (by kernel_rfl) rfl rfl (.fa 144 .i64 zF) (by kernel_rfl) (by kernel_rfl) rfl Tryz.underlying170 ⟨rfl, rfl⟩ (ag_ok (by kernel_rfl) (by kernel_rfl) (fun ds h => by cases (Tryz.underlying170.symm.trans h) <;> rfl))
theorem ty172 : TyOK Tryz.prog TT 172 ⟨.int .u64, 1, 8⟩ := ty_ok (f := Tryz.t172) (by kernel_rfl) rfl rfl (.v (.int .u64 0)) (by kernel_rfl) (by kernel_rfl) rfl Tryz.underlying172 rfl (ag_no rfl)
theorem ty173 : TyOK Tryz.prog TT 173 ⟨.struct [(0, 22), (1, 3), (2, 172)], 3, 40⟩ := ty_ok (f := Tryz.t173) (by kernel_rfl) rfl rfl (.rc [.nil (.one (.i .u8)), .v (.int .i64 0), .v (.int .u64 0)]) (by kernel_rfl) (by kernel_rfl) rfl Tryz.underlying173 rfl (ag_ok (by kernel_rfl) (by kernel_rfl) (fun ds h => by cases (Tryz.underlying173.symm.trans h) <;> rfl))
theorem ty174 : TyOK Tryz.prog TT 174 ⟨.struct [(0, 22), (1, 3), (2, 172)], 3, 40⟩ := ty_ok (f := Tryz.t174) (by kernel_rfl) rfl rfl (.rc [.nil (.one (.i .u8)), .v (.int .i64 0), .v (.int .u64 0)]) (by kernel_rfl) (by kernel_rfl) rfl Tryz.underlying174 rfl (ag_ok (by kernel_rfl) (by kernel_rfl) (fun ds h => by cases (Tryz.underlying174.symm.trans h) <;> rfl))
theorem ty189 : TyOK Tryz.prog TT 189 ⟨.ptr 5, 1, 8⟩ := ty_ok (f := Tryz.t189) (by kernel_rfl) rfl rfl (.v (.pointer none)) (by kernel_rfl) (by kernel_rfl) rfl Tryz.underlying189 rfl (ag_no rfl)
theorem ty194 : TyOK Tryz.prog TT 194 ⟨.array 144 4, 144, 144⟩ := ty_ok (f := Tryz.t194) (by kernel_rfl) rfl rfl (.fb 144 zB) (by kernel_rfl) (by kernel_rfl) rfl Tryz.underlying194 ⟨rfl, rfl⟩ (ag_ok (by kernel_rfl) (by kernel_rfl) (fun ds h => by cases (Tryz.underlying194.symm.trans h) <;> rfl))
theorem ty199 : TyOK Tryz.prog TT 199 ⟨.ptr 194, 1, 8⟩ := ty_ok (f := Tryz.t199) (by kernel_rfl) rfl rfl (.v (.pointer none)) (by kernel_rfl) (by kernel_rfl) rfl Tryz.underlying199 rfl (ag_no rfl)
theorem ty203 : TyOK Tryz.prog TT 203 ⟨.int .u32, 1, 4⟩ := ty_ok (f := Tryz.t203) (by kernel_rfl) rfl rfl (.v (.int .u32 0)) (by kernel_rfl) (by kernel_rfl) rfl Tryz.underlying203 rfl (ag_no rfl)
theorem ty215 : TyOK Tryz.prog TT 215 ⟨.array 2 2, 2, 16⟩ := ty_ok (f := Tryz.t215) (by kernel_rfl) rfl rfl (.fa 2 .i64 zF) (by kernel_rfl) (by kernel_rfl) rfl Tryz.underlying215 ⟨rfl, rfl⟩ (ag_ok (by kernel_rfl) (by kernel_rfl) (fun ds h => by cases (Tryz.underlying215.symm.trans h) <;> rfl))
theorem ty216 : TyOK Tryz.prog TT 216 ⟨.array 4 215, 8, 64⟩ := ty_ok (f := Tryz.t216) (by kernel_rfl) rfl rfl (.fa2 4 2 .i64 zF2) (by kernel_rfl) (by kernel_rfl) rfl Tryz.underlying216 ⟨rfl, rfl⟩ (ag_ok (by kernel_rfl) (by kernel_rfl) (fun ds h => by cases (Tryz.underlying216.symm.trans h) <;> rfl))
theorem ty224 : TyOK Tryz.prog TT 224 ⟨.ptr 243, 1, 8⟩ := ty_ok (f := Tryz.t224) (by kernel_rfl) rfl rfl (.v (.pointer none)) (by kernel_rfl) (by kernel_rfl) rfl Tryz.underlying224 rfl (ag_no rfl)
theorem ty228 : TyOK Tryz.prog TT 228 ⟨.array 24 5, 24, 24⟩ := ty_ok (f := Tryz.t228) (by kernel_rfl) rfl rfl (.fa 24 .u8 zF) (by kernel_rfl) (by kernel_rfl) rfl Tryz.underlying228 ⟨rfl, rfl⟩ (ag_ok (by kernel_rfl) (by kernel_rfl) (fun ds h => by cases (Tryz.underlying228.symm.trans h) <;> rfl))
theorem ty246 : TyOK Tryz.prog TT 246 ⟨.array 20 172, 20, 160⟩ := ty_ok (f := Tryz.t246) (by kernel_rfl) rfl rfl (.fa 20 .u64 zF) (by kernel_rfl) (by kernel_rfl) rfl Tryz.underlying246 ⟨rfl, rfl⟩ (ag_ok (by kernel_rfl) (by kernel_rfl) (fun ds h => by cases (Tryz.underlying246.symm.trans h) <;> rfl))
theorem ty247 : TyOK Tryz.prog TT 247 ⟨.array 65 5, 65, 65⟩ := ty_ok (f := Tryz.t247) (by kernel_rfl) rfl rfl (.fa 65 .u8 zF) (by kernel_rfl) (by kernel_rfl) rfl Tryz.underlying247 ⟨rfl, rfl⟩ (ag_ok (by kernel_rfl) (by kernel_rfl) (fun ds h => by cases (Tryz.underlying247.symm.trans h) <;> rfl))
theorem ty249 : TyOK Tryz.prog TT 249 ⟨.int .i64, 1, 8⟩ := ty_ok (f := Tryz.t249) (by kernel_rfl) rfl rfl (.v (.int .i64 0)) (by kernel_rfl) (by kernel_rfl) rfl Tryz.underlying249 rfl (ag_no rfl)
theorem ty257 : TyOK Tryz.prog TT 257 ⟨.array 256 5, 256, 256⟩ := ty_ok (f := Tryz.t257) (by kernel_rfl) rfl rfl (.fa 256 .u8 zF) (by kernel_rfl) (by kernel_rfl) rfl Tryz.underlying257 ⟨rfl, rfl⟩ (ag_ok (by kernel_rfl) (by kernel_rfl) (fun ds h => by cases (Tryz.underlying257.symm.trans h) <;> rfl))
theorem ty258 : TyOK Tryz.prog TT 258 ⟨.struct [(0, 5), (1, 5)], 2, 2⟩ := ty_ok (f := Tryz.t258) (by kernel_rfl) rfl rfl (.rc [.v (.int .u8 0), .v (.int .u8 0)]) (by kernel_rfl) (by kernel_rfl) rfl Tryz.underlying258 rfl (ag_ok (by kernel_rfl) (by kernel_rfl) (fun ds h => by cases (Tryz.underlying258.symm.trans h) <;> rfl))
theorem ty259 : TyOK Tryz.prog TT 259 ⟨.struct [(0, 5), (1, 5)], 2, 2⟩ := ty_ok (f := Tryz.t259) (by kernel_rfl) rfl rfl (.rc [.v (.int .u8 0), .v (.int .u8 0)]) (by kernel_rfl) (by kernel_rfl) rfl Tryz.underlying259 rfl (ag_ok (by kernel_rfl) (by kernel_rfl) (fun ds h => by cases (Tryz.underlying259.symm.trans h) <;> rfl))
theorem ty260 : TyOK Tryz.prog TT 260 ⟨.array 16 259, 32, 32⟩ := ty_ok' (f := Tryz.t260) (by kernel_rfl) rfl rfl (by kernel_rfl) Tryz.underlying260 ⟨rfl, rfl⟩ (ag_ok (by kernel_rfl) (by kernel_rfl) (fun ds h => by cases (Tryz.underlying260.symm.trans h) <;> rfl))
theorem ty262 : TyOK Tryz.prog TT 262 ⟨.ptr 264, 1, 8⟩ := ty_ok (f := Tryz.t262) (by kernel_rfl) rfl rfl (.v (.pointer none)) (by kernel_rfl) (by kernel_rfl) rfl Tryz.underlying262 rfl (ag_no rfl)
theorem ty263 : TyOK Tryz.prog TT 263 ⟨.struct [(0, 9)], 1, 16⟩ := ty_ok (f := Tryz.t263) (by kernel_rfl) rfl rfl (.rc [.v (.string (⟨#[]⟩ : ByteArray))]) (by kernel_rfl) (by kernel_rfl) rfl Tryz.underlying263 rfl (ag_ok (by kernel_rfl) (by kernel_rfl) (fun ds h => by cases (Tryz.underlying263.symm.trans h) <;> rfl))
theorem ty264 : TyOK Tryz.prog TT 264 ⟨.struct [(0, 9)], 1, 16⟩ := ty_ok (f := Tryz.t264) (by kernel_rfl) rfl rfl (.rc [.v (.string (⟨#[]⟩ : ByteArray))]) (by kernel_rfl) (by kernel_rfl) rfl Tryz.underlying264 rfl (ag_ok (by kernel_rfl) (by kernel_rfl) (fun ds h => by cases (Tryz.underlying264.symm.trans h) <;> rfl))
theorem ty265 : TyOK Tryz.prog TT 265 ⟨.int .u64, 1, 8⟩ := ty_ok (f := Tryz.t265) (by kernel_rfl) rfl rfl (.v (.int .u64 0)) (by kernel_rfl) (by kernel_rfl) rfl Tryz.underlying265 rfl (ag_no rfl)
theorem ty269 : TyOK Tryz.prog TT 269 ⟨.ptr 3, 1, 8⟩ := ty_ok (f := Tryz.t269) (by kernel_rfl) rfl rfl (.v (.pointer none)) (by kernel_rfl) (by kernel_rfl) rfl Tryz.underlying269 rfl (ag_no rfl)
theorem ty271 : TyOK Tryz.prog TT 271 ⟨.array 32 5, 32, 32⟩ := ty_ok (f := Tryz.t271) (by kernel_rfl) rfl rfl (.fa 32 .u8 zF) (by kernel_rfl) (by kernel_rfl) rfl Tryz.underlying271 ⟨rfl, rfl⟩ (ag_ok (by kernel_rfl) (by kernel_rfl) (fun ds h => by cases (Tryz.underlying271.symm.trans h) <;> rfl))
theorem ty272 : TyOK Tryz.prog TT 272 ⟨.array 64 5, 64, 64⟩ := ty_ok (f := Tryz.t272) (by kernel_rfl) rfl rfl (.fa 64 .u8 zF) (by kernel_rfl) (by kernel_rfl) rfl Tryz.underlying272 ⟨rfl, rfl⟩ (ag_ok (by kernel_rfl) (by kernel_rfl) (fun ds h => by cases (Tryz.underlying272.symm.trans h) <;> rfl))
theorem ty273 : TyOK Tryz.prog TT 273 ⟨.ptr 265, 1, 8⟩ := ty_ok (f := Tryz.t273) (by kernel_rfl) rfl rfl (.v (.pointer none)) (by kernel_rfl) (by kernel_rfl) rfl Tryz.underlying273 rfl (ag_no rfl)
theorem ty278 : TyOK Tryz.prog TT 278 ⟨.array 0 16, 0, 0⟩ := ty_ok' (f := Tryz.t278) (by kernel_rfl) rfl rfl (by kernel_rfl) Tryz.underlying278 ⟨rfl, rfl⟩ (ag_ok (by kernel_rfl) (by kernel_rfl) (fun ds h => by cases (Tryz.underlying278.symm.trans h) <;> rfl))
theorem tab : TabOK Tryz.prog TT := tab_of ⟨ty2, ty3, ty4, ty5, ty9, ty12, ty15, ty16, ty17, ty21, ty22, ty24, ty25, ty33, ty38, ty39, ty40, ty42, ty53, ty68, ty75, ty83, ty84, ty85, ty86, ty87, ty90, ty91, ty92, ty96, ty98, ty114, ty129, ty130, ty131, ty133, ty134, ty135, ty141, ty142, ty143, ty168, ty170, ty172, ty173, ty174, ty189, ty194, ty199, ty203, ty215, ty216, ty224, ty228, ty246, ty247, ty249, ty257, ty258, ty259, ty260, ty262, ty263, ty264, ty265, ty269, ty271, ty272, ty273, ty278, trivial⟩
theorem mix : Tryz.prog.follows .mixedOrders = true := by kernel_rfl
end Go.RR
