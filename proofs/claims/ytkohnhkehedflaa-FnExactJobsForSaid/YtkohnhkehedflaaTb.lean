/- The types of the program at hand. -/
import Derived.Test.YtkohnhkehedflaaRo
import Derived.Test.YtkohnhkehedflaaChecked
set_option linter.unusedVariables false
namespace Go.RR
open Go Go.Proofs

def TT : Tab := [(2, ⟨.int .i64, 1, 8⟩),
  (3, ⟨.int .i64, 1, 8⟩),
  (4, ⟨.bool, 1, 1⟩),
  (5, ⟨.int .u8, 1, 1⟩),
  (9, ⟨.str, 1, 16⟩),
  (12, ⟨.int .u64, 1, 8⟩),
  (15, ⟨.ptr 266, 1, 8⟩),
  (16, ⟨.ptr 269, 1, 8⟩),
  (17, ⟨.ptr 278, 1, 8⟩),
  (21, ⟨.int .i32, 1, 4⟩),
  (22, ⟨.slice 5, 1, 24⟩),
  (24, ⟨.int .i8, 1, 1⟩),
  (25, ⟨.array 144 5, 144, 144⟩),
  (26, ⟨.struct [(0, 24), (1, 24), (2, 25)], 146, 146⟩),
  (27, ⟨.struct [(0, 24), (1, 24), (2, 25)], 146, 146⟩),
  (38, ⟨.slice 2, 1, 24⟩),
  (42, ⟨.slice 128, 1, 24⟩),
  (46, ⟨.slice 99, 1, 24⟩),
  (50, ⟨.slice 135, 1, 24⟩),
  (53, ⟨.slice 103, 1, 24⟩),
  (61, ⟨.slice 38, 1, 24⟩),
  (73, ⟨.array 16 2, 16, 128⟩),
  (79, ⟨.slice 27, 1, 24⟩),
  (84, ⟨.struct [(0, 24), (1, 24), (2, 25)], 146, 146⟩),
  (97, ⟨.int .u16, 1, 2⟩),
  (98, ⟨.struct [(0, 24), (1, 97)], 2, 4⟩),
  (99, ⟨.struct [(0, 24), (1, 97)], 2, 4⟩),
  (101, ⟨.int .i16, 1, 2⟩),
  (102, ⟨.struct [(0, 24), (1, 101)], 2, 4⟩),
  (103, ⟨.struct [(0, 24), (1, 101)], 2, 4⟩),
  (104, ⟨.ptr 179, 1, 8⟩),
  (111, ⟨.ptr 27, 1, 8⟩),
  (128, ⟨.struct [(0, 24), (1, 97)], 2, 4⟩),
  (135, ⟨.struct [(0, 24), (1, 101)], 2, 4⟩),
  (139, ⟨.ptr 141, 1, 8⟩),
  (140, ⟨.struct [(0, 2), (1, 2), (2, 38), (3, 38), (4, 2), (5, 2), (6, 4), (7, 4), (8, 61)], 9, 112⟩),
  (141, ⟨.struct [(0, 2), (1, 2), (2, 38), (3, 38), (4, 2), (5, 2), (6, 4), (7, 4), (8, 61)], 9, 112⟩),
  (143, ⟨.ptr 145, 1, 8⟩),
  (144, ⟨.struct [(0, 2), (1, 2), (2, 38), (3, 38), (4, 61), (5, 61), (6, 4), (7, 2), (8, 2)], 9, 136⟩),
  (145, ⟨.struct [(0, 2), (1, 2), (2, 38), (3, 38), (4, 61), (5, 61), (6, 4), (7, 2), (8, 2)], 9, 136⟩),
  (157, ⟨.array 144 3, 144, 1152⟩),
  (159, ⟨.int .u64, 1, 8⟩),
  (167, ⟨.ptr 172, 1, 8⟩),
  (171, ⟨.struct [(0, 46), (1, 53), (2, 38)], 3, 72⟩),
  (172, ⟨.struct [(0, 46), (1, 53), (2, 38)], 3, 72⟩),
  (177, ⟨.int .u64, 1, 8⟩),
  (178, ⟨.struct [(0, 22), (1, 3), (2, 177)], 3, 40⟩),
  (179, ⟨.struct [(0, 22), (1, 3), (2, 177)], 3, 40⟩),
  (183, ⟨.array 3 5, 3, 3⟩),
  (184, ⟨.array 3 5, 3, 3⟩),
  (185, ⟨.array 144 184, 432, 432⟩),
  (186, ⟨.struct [(0, 24), (1, 24), (2, 185)], 434, 434⟩),
  (187, ⟨.struct [(0, 24), (1, 24), (2, 185)], 434, 434⟩),
  (190, ⟨.ptr 192, 1, 8⟩),
  (191, ⟨.struct [(0, 46), (1, 2), (2, 2), (3, 2), (4, 53), (5, 2), (6, 4)], 7, 88⟩),
  (192, ⟨.struct [(0, 46), (1, 2), (2, 2), (3, 2), (4, 53), (5, 2), (6, 4)], 7, 88⟩),
  (197, ⟨.ptr 199, 1, 8⟩),
  (198, ⟨.struct [(0, 167), (1, 97), (2, 53), (3, 2), (4, 2), (5, 2), (6, 2), (7, 4)], 8, 80⟩),
  (199, ⟨.struct [(0, 167), (1, 97), (2, 53), (3, 2), (4, 2), (5, 2), (6, 2), (7, 4)], 8, 80⟩),
  (211, ⟨.array 16 3, 16, 128⟩),
  (212, ⟨.array 144 4, 144, 144⟩),
  (215, ⟨.ptr 212, 1, 8⟩),
  (223, ⟨.slice 3, 1, 24⟩),
  (230, ⟨.int .u32, 1, 4⟩),
  (238, ⟨.array 2 2, 2, 16⟩),
  (239, ⟨.array 4 238, 8, 64⟩),
  (246, ⟨.int .i64, 1, 8⟩),
  (255, ⟨.int .u64, 1, 8⟩),
  (259, ⟨.ptr 3, 1, 8⟩),
  (261, ⟨.ptr 255, 1, 8⟩),
  (267, ⟨.array 0 16, 0, 0⟩),
  (274, ⟨.ptr 5, 1, 8⟩)]
theorem ty2 : TyOK Try.prog TT 2 ⟨.int .i64, 1, 8⟩ := ty_ok (f := Try.t2) (by kernel_rfl) rfl rfl (.v (.int .i64 0)) (by kernel_rfl) (by kernel_rfl) rfl Try.underlying2 rfl (ag_no rfl)
theorem ty3 : TyOK Try.prog TT 3 ⟨.int .i64, 1, 8⟩ := ty_ok (f := Try.t3) (by kernel_rfl) rfl rfl (.v (.int .i64 0)) (by kernel_rfl) (by kernel_rfl) rfl Try.underlying3 rfl (ag_no rfl)
theorem ty4 : TyOK Try.prog TT 4 ⟨.bool, 1, 1⟩ := ty_ok (f := Try.t4) (by kernel_rfl) rfl rfl (.v (.bool false)) (by kernel_rfl) (by kernel_rfl) rfl Try.underlying4 trivial (ag_no rfl)
theorem ty5 : TyOK Try.prog TT 5 ⟨.int .u8, 1, 1⟩ := ty_ok (f := Try.t5) (by kernel_rfl) rfl rfl (.v (.int .u8 0)) (by kernel_rfl) (by kernel_rfl) rfl Try.underlying5 rfl (ag_no rfl)
theorem ty9 : TyOK Try.prog TT 9 ⟨.str, 1, 16⟩ := ty_ok (f := Try.t9) (by kernel_rfl) rfl rfl (.v (.string (⟨#[]⟩ : ByteArray))) (by kernel_rfl) (by kernel_rfl) rfl Try.underlying9 trivial (ag_no rfl)
theorem ty12 : TyOK Try.prog TT 12 ⟨.int .u64, 1, 8⟩ := ty_ok (f := Try.t12) (by kernel_rfl) rfl rfl (.v (.int .u64 0)) (by kernel_rfl) (by kernel_rfl) rfl Try.underlying12 rfl (ag_no rfl)
theorem ty15 : TyOK Try.prog TT 15 ⟨.ptr 266, 1, 8⟩ := ty_ok (f := Try.t15) (by kernel_rfl) rfl rfl (.v (.pointer none)) (by kernel_rfl) (by kernel_rfl) rfl Try.underlying15 rfl (ag_no rfl)
theorem ty16 : TyOK Try.prog TT 16 ⟨.ptr 269, 1, 8⟩ := ty_ok (f := Try.t16) (by kernel_rfl) rfl rfl (.v (.pointer none)) (by kernel_rfl) (by kernel_rfl) rfl Try.underlying16 rfl (ag_no rfl)
theorem ty17 : TyOK Try.prog TT 17 ⟨.ptr 278, 1, 8⟩ := ty_ok (f := Try.t17) (by kernel_rfl) rfl rfl (.v (.pointer none)) (by kernel_rfl) (by kernel_rfl) rfl Try.underlying17 rfl (ag_no rfl)
theorem ty21 : TyOK Try.prog TT 21 ⟨.int .i32, 1, 4⟩ := ty_ok (f := Try.t21) (by kernel_rfl) rfl rfl (.v (.int .i32 0)) (by kernel_rfl) (by kernel_rfl) rfl Try.underlying21 rfl (ag_no rfl)
theorem ty22 : TyOK Try.prog TT 22 ⟨.slice 5, 1, 24⟩ := ty_ok (f := Try.t22) (by kernel_rfl) rfl rfl (.nil (.one (.i .u8))) (by kernel_rfl) (by kernel_rfl) rfl Try.underlying22 rfl (ag_no rfl)
theorem ty24 : TyOK Try.prog TT 24 ⟨.int .i8, 1, 1⟩ := ty_ok (f := Try.t24) (by kernel_rfl) rfl rfl (.v (.int .i8 0)) (by kernel_rfl) (by kernel_rfl) rfl Try.underlying24 rfl (ag_no rfl)
theorem ty25 : TyOK Try.prog TT 25 ⟨.array 144 5, 144, 144⟩ := ty_ok (f := Try.t25) (by kernel_rfl) rfl rfl (.fa 144 .u8 zF) (by kernel_rfl) (by kernel_rfl) rfl Try.underlying25 ⟨rfl, rfl⟩ (ag_ok (by kernel_rfl) (by kernel_rfl) (fun ds h => by cases (Try.underlying25.symm.trans h) <;> rfl))
theorem ty26 : TyOK Try.prog TT 26 ⟨.struct [(0, 24), (1, 24), (2, 25)], 146, 146⟩ := ty_ok (f := Try.t26) (by kernel_rfl) rfl rfl (.rc [.v (.int .i8 0), .v (.int .i8 0), .fa 144 .u8 zF]) (by kernel_rfl) (by kernel_rfl) rfl Try.underlying26 rfl (ag_ok (by kernel_rfl) (by kernel_rfl) (fun ds h => by cases (Try.underlying26.symm.trans h) <;> rfl))
theorem ty27 : TyOK Try.prog TT 27 ⟨.struct [(0, 24), (1, 24), (2, 25)], 146, 146⟩ := ty_ok (f := Try.t27) (by kernel_rfl) rfl rfl (.rc [.v (.int .i8 0), .v (.int .i8 0), .fa 144 .u8 zF]) (by kernel_rfl) (by kernel_rfl) rfl Try.underlying27 rfl (ag_ok (by kernel_rfl) (by kernel_rfl) (fun ds h => by cases (Try.underlying27.symm.trans h) <;> rfl))
theorem ty38 : TyOK Try.prog TT 38 ⟨.slice 2, 1, 24⟩ := ty_ok (f := Try.t38) (by kernel_rfl) rfl rfl (.nil (.one (.i .i64))) (by kernel_rfl) (by kernel_rfl) rfl Try.underlying38 rfl (ag_no rfl)
theorem ty42 : TyOK Try.prog TT 42 ⟨.slice 128, 1, 24⟩ := ty_ok (f := Try.t42) (by kernel_rfl) rfl rfl (.nil (.st [(.i .i8), (.i .u16)])) (by kernel_rfl) (by kernel_rfl) rfl Try.underlying42 rfl (ag_no rfl)
theorem ty46 : TyOK Try.prog TT 46 ⟨.slice 99, 1, 24⟩ := ty_ok (f := Try.t46) (by kernel_rfl) rfl rfl (.nil (.st [(.i .i8), (.i .u16)])) (by kernel_rfl) (by kernel_rfl) rfl Try.underlying46 rfl (ag_no rfl)
theorem ty50 : TyOK Try.prog TT 50 ⟨.slice 135, 1, 24⟩ := ty_ok (f := Try.t50) (by kernel_rfl) rfl rfl (.nil (.st [(.i .i8), (.i .i16)])) (by kernel_rfl) (by kernel_rfl) rfl Try.underlying50 rfl (ag_no rfl)
theorem ty53 : TyOK Try.prog TT 53 ⟨.slice 103, 1, 24⟩ := ty_ok (f := Try.t53) (by kernel_rfl) rfl rfl (.nil (.st [(.i .i8), (.i .i16)])) (by kernel_rfl) (by kernel_rfl) rfl Try.underlying53 rfl (ag_no rfl)
theorem ty61 : TyOK Try.prog TT 61 ⟨.slice 38, 1, 24⟩ := ty_ok (f := Try.t61) (by kernel_rfl) rfl rfl (.nil (.one (.ls .i64))) (by kernel_rfl) (by kernel_rfl) rfl Try.underlying61 rfl (ag_no rfl)
theorem ty73 : TyOK Try.prog TT 73 ⟨.array 16 2, 16, 128⟩ := ty_ok (f := Try.t73) (by kernel_rfl) rfl rfl (.fa 16 .i64 zF) (by kernel_rfl) (by kernel_rfl) rfl Try.underlying73 ⟨rfl, rfl⟩ (ag_ok (by kernel_rfl) (by kernel_rfl) (fun ds h => by cases (Try.underlying73.symm.trans h) <;> rfl))
theorem ty79 : TyOK Try.prog TT 79 ⟨.slice 27, 1, 24⟩ := ty_ok (f := Try.t79) (by kernel_rfl) rfl rfl (.nil (.st [(.i .i8), (.i .i8), (.fa 144 .u8)])) (by kernel_rfl) (by kernel_rfl) rfl Try.underlying79 rfl (ag_no rfl)
theorem ty84 : TyOK Try.prog TT 84 ⟨.struct [(0, 24), (1, 24), (2, 25)], 146, 146⟩ := ty_ok (f := Try.t84) (by kernel_rfl) rfl rfl (.rc [.v (.int .i8 0), .v (.int .i8 0), .fa 144 .u8 zF]) (by kernel_rfl) (by kernel_rfl) rfl Try.underlying84 rfl (ag_ok (by kernel_rfl) (by kernel_rfl) (fun ds h => by cases (Try.underlying84.symm.trans h) <;> rfl))
theorem ty97 : TyOK Try.prog TT 97 ⟨.int .u16, 1, 2⟩ := ty_ok (f := Try.t97) (by kernel_rfl) rfl rfl (.v (.int .u16 0)) (by kernel_rfl) (by kernel_rfl) rfl Try.underlying97 rfl (ag_no rfl)
theorem ty98 : TyOK Try.prog TT 98 ⟨.struct [(0, 24), (1, 97)], 2, 4⟩ := ty_ok (f := Try.t98) (by kernel_rfl) rfl rfl (.rc [.v (.int .i8 0), .v (.int .u16 0)]) (by kernel_rfl) (by kernel_rfl) rfl Try.underlying98 rfl (ag_ok (by kernel_rfl) (by kernel_rfl) (fun ds h => by cases (Try.underlying98.symm.trans h) <;> rfl))
theorem ty99 : TyOK Try.prog TT 99 ⟨.struct [(0, 24), (1, 97)], 2, 4⟩ := ty_ok (f := Try.t99) (by kernel_rfl) rfl rfl (.rc [.v (.int .i8 0), .v (.int .u16 0)]) (by kernel_rfl) (by kernel_rfl) rfl Try.underlying99 rfl (ag_ok (by kernel_rfl) (by kernel_rfl) (fun ds h => by cases (Try.underlying99.symm.trans h) <;> rfl))
theorem ty101 : TyOK Try.prog TT 101 ⟨.int .i16, 1, 2⟩ := ty_ok (f := Try.t101) (by kernel_rfl) rfl rfl (.v (.int .i16 0)) (by kernel_rfl) (by kernel_rfl) rfl Try.underlying101 rfl (ag_no rfl)
theorem ty102 : TyOK Try.prog TT 102 ⟨.struct [(0, 24), (1, 101)], 2, 4⟩ := ty_ok (f := Try.t102) (by kernel_rfl) rfl rfl (.rc [.v (.int .i8 0), .v (.int .i16 0)]) (by kernel_rfl) (by kernel_rfl) rfl Try.underlying102 rfl (ag_ok (by kernel_rfl) (by kernel_rfl) (fun ds h => by cases (Try.underlying102.symm.trans h) <;> rfl))
theorem ty103 : TyOK Try.prog TT 103 ⟨.struct [(0, 24), (1, 101)], 2, 4⟩ := ty_ok (f := Try.t103) (by kernel_rfl) rfl rfl (.rc [.v (.int .i8 0), .v (.int .i16 0)]) (by kernel_rfl) (by kernel_rfl) rfl Try.underlying103 rfl (ag_ok (by kernel_rfl) (by kernel_rfl) (fun ds h => by cases (Try.underlying103.symm.trans h) <;> rfl))
theorem ty104 : TyOK Try.prog TT 104 ⟨.ptr 179, 1, 8⟩ := ty_ok (f := Try.t104) (by kernel_rfl) rfl rfl (.v (.pointer none)) (by kernel_rfl) (by kernel_rfl) rfl Try.underlying104 rfl (ag_no rfl)
theorem ty111 : TyOK Try.prog TT 111 ⟨.ptr 27, 1, 8⟩ := ty_ok (f := Try.t111) (by kernel_rfl) rfl rfl (.v (.pointer none)) (by kernel_rfl) (by kernel_rfl) rfl Try.underlying111 rfl (ag_no rfl)
theorem ty128 : TyOK Try.prog TT 128 ⟨.struct [(0, 24), (1, 97)], 2, 4⟩ := ty_ok (f := Try.t128) (by kernel_rfl) rfl rfl (.rc [.v (.int .i8 0), .v (.int .u16 0)]) (by kernel_rfl) (by kernel_rfl) rfl Try.underlying128 rfl (ag_ok (by kernel_rfl) (by kernel_rfl) (fun ds h => by cases (Try.underlying128.symm.trans h) <;> rfl))
theorem ty135 : TyOK Try.prog TT 135 ⟨.struct [(0, 24), (1, 101)], 2, 4⟩ := ty_ok (f := Try.t135) (by kernel_rfl) rfl rfl (.rc [.v (.int .i8 0), .v (.int .i16 0)]) (by kernel_rfl) (by kernel_rfl) rfl Try.underlying135 rfl (ag_ok (by kernel_rfl) (by kernel_rfl) (fun ds h => by cases (Try.underlying135.symm.trans h) <;> rfl))
theorem ty139 : TyOK Try.prog TT 139 ⟨.ptr 141, 1, 8⟩ := ty_ok (f := Try.t139) (by kernel_rfl) rfl rfl (.v (.pointer none)) (by kernel_rfl) (by kernel_rfl) rfl Try.underlying139 rfl (ag_no rfl)
theorem ty140 : TyOK Try.prog TT 140 ⟨.struct [(0, 2), (1, 2), (2, 38), (3, 38), (4, 2), (5, 2), (6, 4), (7, 4), (8, 61)], 9, 112⟩ := ty_ok (f := Try.t140) (by kernel_rfl) rfl rfl (.rc [.v (.int .i64 0), .v (.int .i64 0), .nil (.one (.i .i64)), .nil (.one (.i .i64)), .v (.int .i64 0), .v (.int .i64 0), .v (.bool false), .v (.bool false), .nil (.one (.ls .i64))]) (by kernel_rfl) (by kernel_rfl) rfl Try.underlying140 rfl (ag_ok (by kernel_rfl) (by kernel_rfl) (fun ds h => by cases (Try.underlying140.symm.trans h) <;> rfl))
theorem ty141 : TyOK Try.prog TT 141 ⟨.struct [(0, 2), (1, 2), (2, 38), (3, 38), (4, 2), (5, 2), (6, 4), (7, 4), (8, 61)], 9, 112⟩ := ty_ok (f := Try.t141) (by kernel_rfl) rfl rfl (.rc [.v (.int .i64 0), .v (.int .i64 0), .nil (.one (.i .i64)), .nil (.one (.i .i64)), .v (.int .i64 0), .v (.int .i64 0), .v (.bool false), .v (.bool false), .nil (.one (.ls .i64))]) (by kernel_rfl) (by kernel_rfl) rfl Try.underlying141 rfl (ag_ok (by kernel_rfl) (by kernel_rfl) (fun ds h => by cases (Try.underlying141.symm.trans h) <;> rfl))
theorem ty143 : TyOK Try.prog TT 143 ⟨.ptr 145, 1, 8⟩ := ty_ok (f := Try.t143) (by kernel_rfl) rfl rfl (.v (.pointer none)) (by kernel_rfl) (by kernel_rfl) rfl Try.underlying143 rfl (ag_no rfl)
theorem ty144 : TyOK Try.prog TT 144 ⟨.struct [(0, 2), (1, 2), (2, 38), (3, 38), (4, 61), (5, 61), (6, 4), (7, 2), (8, 2)], 9, 136⟩ := ty_ok (f := Try.t144) (by kernel_rfl) rfl rfl (.rc [.v (.int .i64 0), .v (.int .i64 0), .nil (.one (.i .i64)), .nil (.one (.i .i64)), .nil (.one (.ls .i64)), .nil (.one (.ls .i64)), .v (.bool false), .v (.int .i64 0), .v (.int .i64 0)]) (by kernel_rfl) (by kernel_rfl) rfl Try.underlying144 rfl (ag_ok (by kernel_rfl) (by kernel_rfl) (fun ds h => by cases (Try.underlying144.symm.trans h) <;> rfl))
theorem ty145 : TyOK Try.prog TT 145 ⟨.struct [(0, 2), (1, 2), (2, 38), (3, 38), (4, 61), (5, 61), (6, 4), (7, 2), (8, 2)], 9, 136⟩ := ty_ok (f := Try.t145) (by kernel_rfl) rfl rfl (.rc [.v (.int .i64 0), .v (.int .i64 0), .nil (.one (.i .i64)), .nil (.one (.i .i64)), .nil (.one (.ls .i64)), .nil (.one (.ls .i64)), .v (.bool false), .v (.int .i64 0), .v (.int .i64 0)]) (by kernel_rfl) (by kernel_rfl) rfl Try.underlying145 rfl (ag_ok (by kernel_rfl) (by kernel_rfl) (fun ds h => by cases (Try.underlying145.symm.trans h) <;> rfl))
theorem ty157 : TyOK Try.prog TT 157 ⟨.array 144 3, 144, 1152⟩ := ty_ok (f := Try.t157) (by kernel_rfl) rfl rfl (.fa 144 .i64 zF) (by kernel_rfl) (by kernel_rfl) rfl Try.underlying157 ⟨rfl, rfl⟩ (ag_ok (by kernel_rfl) (by kernel_rfl) (fun ds h => by cases (Try.underlying157.symm.trans h) <;> rfl))
theorem ty159 : TyOK Try.prog TT 159 ⟨.int .u64, 1, 8⟩ := ty_ok (f := Try.t159) (by kernel_rfl) rfl rfl (.v (.int .u64 0)) (by kernel_rfl) (by kernel_rfl) rfl Try.underlying159 rfl (ag_no rfl)
theorem ty167 : TyOK Try.prog TT 167 ⟨.ptr 172, 1, 8⟩ := ty_ok (f := Try.t167) (by kernel_rfl) rfl rfl (.v (.pointer none)) (by kernel_rfl) (by kernel_rfl) rfl Try.underlying167 rfl (ag_no rfl)
theorem ty171 : TyOK Try.prog TT 171 ⟨.struct [(0, 46), (1, 53), (2, 38)], 3, 72⟩ := ty_ok (f := Try.t171) (by kernel_rfl) rfl rfl (.rc [.nil (.st [(.i .i8), (.i .u16)]), .nil (.st [(.i .i8), (.i .i16)]), .nil (.one (.i .i64))]) (by kernel_rfl) (by kernel_rfl) rfl Try.underlying171 rfl (ag_ok (by kernel_rfl) (by kernel_rfl) (fun ds h => by cases (Try.underlying171.symm.trans h) <;> rfl))
theorem ty172 : TyOK Try.prog TT 172 ⟨.struct [(0, 46), (1, 53), (2, 38)], 3, 72⟩ := ty_ok (f := Try.t172) (by kernel_rfl) rfl rfl (.rc [.nil (.st [(.i .i8), (.i .u16)]), .nil (.st [(.i .i8), (.i .i16)]), .nil (.one (.i .i64))]) (by kernel_rfl) (by kernel_rfl) rfl Try.underlying172 rfl (ag_ok (by kernel_rfl) (by kernel_rfl) (fun ds h => by cases (Try.underlying172.symm.trans h) <;> rfl))
theorem ty177 : TyOK Try.prog TT 177 ⟨.int .u64, 1, 8⟩ := ty_ok (f := Try.t177) (by kernel_rfl) rfl rfl (.v (.int .u64 0)) (by kernel_rfl) (by kernel_rfl) rfl Try.underlying177 rfl (ag_no rfl)
theorem ty178 : TyOK Try.prog TT 178 ⟨.struct [(0, 22), (1, 3), (2, 177)], 3, 40⟩ := ty_ok (f := Try.t178) (by kernel_rfl) rfl rfl (.rc [.nil (.one (.i .u8)), .v (.int .i64 0), .v (.int .u64 0)]) (by kernel_rfl) (by kernel_rfl) rfl Try.underlying178 rfl (ag_ok (by kernel_rfl) (by kernel_rfl) (fun ds h => by cases (Try.underlying178.symm.trans h) <;> rfl))
theorem ty179 : TyOK Try.prog TT 179 ⟨.struct [(0, 22), (1, 3), (2, 177)], 3, 40⟩ := ty_ok (f := Try.t179) (by kernel_rfl) rfl rfl (.rc [.nil (.one (.i .u8)), .v (.int .i64 0), .v (.int .u64 0)]) (by kernel_rfl) (by kernel_rfl) rfl Try.underlying179 rfl (ag_ok (by kernel_rfl) (by kernel_rfl) (fun ds h => by cases (Try.underlying179.symm.trans h) <;> rfl))
theorem ty183 : TyOK Try.prog TT 183 ⟨.array 3 5, 3, 3⟩ := ty_ok (f := Try.t183) (by kernel_rfl) rfl rfl (.fa 3 .u8 zF) (by kernel_rfl) (by kernel_rfl) rfl Try.underlying183 ⟨rfl, rfl⟩ (ag_ok (by kernel_rfl) (by kernel_rfl) (fun ds h => by cases (Try.underlying183.symm.trans h) <;> rfl))
theorem ty184 : TyOK Try.prog TT 184 ⟨.array 3 5, 3, 3⟩ := ty_ok (f := Try.t184) (by kernel_rfl) rfl rfl (.fa 3 .u8 zF) (by kernel_rfl) (by kernel_rfl) rfl Try.underlying184 ⟨rfl, rfl⟩ (ag_ok (by kernel_rfl) (by kernel_rfl) (fun ds h => by cases (Try.underlying184.symm.trans h) <;> rfl))
theorem ty185 : TyOK Try.prog TT 185 ⟨.array 144 184, 432, 432⟩ := ty_ok (f := Try.t185) (by kernel_rfl) rfl rfl (.fa2 144 3 .u8 zF2) (by kernel_rfl) (by kernel_rfl) rfl Try.underlying185 ⟨rfl, rfl⟩ (ag_ok (by kernel_rfl) (by kernel_rfl) (fun ds h => by cases (Try.underlying185.symm.trans h) <;> rfl))
theorem ty186 : TyOK Try.prog TT 186 ⟨.struct [(0, 24), (1, 24), (2, 185)], 434, 434⟩ := ty_ok (f := Try.t186) (by kernel_rfl) rfl rfl (.rc [.v (.int .i8 0), .v (.int .i8 0), .fa2 144 3 .u8 zF2]) (by kernel_rfl) (by kernel_rfl) rfl Try.underlying186 rfl (ag_ok (by kernel_rfl) (by kernel_rfl) (fun ds h => by cases (Try.underlying186.symm.trans h) <;> rfl))
theorem ty187 : TyOK Try.prog TT 187 ⟨.struct [(0, 24), (1, 24), (2, 185)], 434, 434⟩ := ty_ok (f := Try.t187) (by kernel_rfl) rfl rfl (.rc [.v (.int .i8 0), .v (.int .i8 0), .fa2 144 3 .u8 zF2]) (by kernel_rfl) (by kernel_rfl) rfl Try.underlying187 rfl (ag_ok (by kernel_rfl) (by kernel_rfl) (fun ds h => by cases (Try.underlying187.symm.trans h) <;> rfl))
theorem ty190 : TyOK Try.prog TT 190 ⟨.ptr 192, 1, 8⟩ := ty_ok (f := Try.t190) (by kernel_rfl) rfl rfl (.v (.pointer none)) (by kernel_rfl) (by kernel_rfl) rfl Try.underlying190 rfl (ag_no rfl)
theorem ty191 : TyOK Try.prog TT 191 ⟨.struct [(0, 46), (1, 2), (2, 2), (3, 2), (4, 53), (5, 2), (6, 4)], 7, 88⟩ := ty_ok (f := Try.t191) (by kernel_rfl) rfl rfl (.rc [.nil (.st [(.i .i8), (.i .u16)]), .v (.int .i64 0), .v (.int .i64 0), .v (.int .i64 0), .nil (.st [(.i .i8), (.i .i16)]), .v (.int .i64 0), .v (.bool false)]) (by kernel_rfl) (by kernel_rfl) rfl Try.underlying191 rfl (ag_ok (by kernel_rfl) (by kernel_rfl) (fun ds h => by cases (Try.underlying191.symm.trans h) <;> rfl))
theorem ty192 : TyOK Try.prog TT 192 ⟨.struct [(0, 46), (1, 2), (2, 2), (3, 2), (4, 53), (5, 2), (6, 4)], 7, 88⟩ := ty_ok (f := Try.t192) (by kernel_rfl) rfl rfl (.rc [.nil (.st [(.i .i8), (.i .u16)]), .v (.int .i64 0), .v (.int .i64 0), .v (.int .i64 0), .nil (.st [(.i .i8), (.i .i16)]), .v (.int .i64 0), .v (.bool false)]) (by kernel_rfl) (by kernel_rfl) rfl Try.underlying192 rfl (ag_ok (by kernel_rfl) (by kernel_rfl) (fun ds h => by cases (Try.underlying192.symm.trans h) <;> rfl))
theorem ty197 : TyOK Try.prog TT 197 ⟨.ptr 199, 1, 8⟩ := ty_ok (f := Try.t197) (by kernel_rfl) rfl rfl (.v (.pointer none)) (by kernel_rfl) (by kernel_rfl) rfl Try.underlying197 rfl (ag_no rfl)
theorem ty198 : TyOK Try.prog TT 198 ⟨.struct [(0, 167), (1, 97), (2, 53), (3, 2), (4, 2), (5, 2), (6, 2), (7, 4)], 8, 80⟩ := ty_ok (f := Try.t198) (by kernel_rfl) rfl rfl (.rc [.v (.pointer none), .v (.int .u16 0), .nil (.st [(.i .i8), (.i .i16)]), .v (.int .i64 0), .v (.int .i64 0), .v (.int .i64 0), .v (.int .i64 0), .v (.bool false)]) (by kernel_rfl) (by kernel_rfl) rfl Try.underlying198 rfl (ag_ok (by kernel_rfl) (by kernel_rfl) (fun ds h => by cases (Try.underlying198.symm.trans h) <;> rfl))
theorem ty199 : TyOK Try.prog TT 199 ⟨.struct [(0, 167), (1, 97), (2, 53), (3, 2), (4, 2), (5, 2), (6, 2), (7, 4)], 8, 80⟩ := ty_ok (f := Try.t199) (by kernel_rfl) rfl rfl (.rc [.v (.pointer none), .v (.int .u16 0), .nil (.st [(.i .i8), (.i .i16)]), .v (.int .i64 0), .v (.int .i64 0), .v (.int .i64 0), .v (.int .i64 0), .v (.bool false)]) (by kernel_rfl) (by kernel_rfl) rfl Try.underlying199 rfl (ag_ok (by kernel_rfl) (by kernel_rfl) (fun ds h => by cases (Try.underlying199.symm.trans h) <;> rfl))
theorem ty211 : TyOK Try.prog TT 211 ⟨.array 16 3, 16, 128⟩ := ty_ok (f := Try.t211) (by kernel_rfl) rfl rfl (.fa 16 .i64 zF) (by kernel_rfl) (by kernel_rfl) rfl Try.underlying211 ⟨rfl, rfl⟩ (ag_ok (by kernel_rfl) (by kernel_rfl) (fun ds h => by cases (Try.underlying211.symm.trans h) <;> rfl))
theorem ty212 : TyOK Try.prog TT 212 ⟨.array 144 4, 144, 144⟩ := ty_ok (f := Try.t212) (by kernel_rfl) rfl rfl (.fb 144 zB) (by kernel_rfl) (by kernel_rfl) rfl Try.underlying212 ⟨rfl, rfl⟩ (ag_ok (by kernel_rfl) (by kernel_rfl) (fun ds h => by cases (Try.underlying212.symm.trans h) <;> rfl))
theorem ty215 : TyOK Try.prog TT 215 ⟨.ptr 212, 1, 8⟩ := ty_ok (f := Try.t215) (by kernel_rfl) rfl rfl (.v (.pointer none)) (by kernel_rfl) (by kernel_rfl) rfl Try.underlying215 rfl (ag_no rfl)
theorem ty223 : TyOK Try.prog TT 223 ⟨.slice 3, 1, 24⟩ := ty_ok (f := Try.t223) (by kernel_rfl) rfl rfl (.nil (.one (.i .i64))) (by kernel_rfl) (by kernel_rfl) rfl Try.underlying223 rfl (ag_no rfl)
theorem ty230 : TyOK Try.prog TT 230 ⟨.int .u32, 1, 4⟩ := ty_ok (f := Try.t230) (by kernel_rfl) rfl rfl (.v (.int .u32 0)) (by kernel_rfl) (by kernel_rfl) rfl Try.underlying230 rfl (ag_no rfl)
theorem ty238 : TyOK Try.prog TT 238 ⟨.array 2 2, 2, 16⟩ := ty_ok (f := Try.t238) (by kernel_rfl) rfl rfl (.fa 2 .i64 zF) (by kernel_rfl) (by kernel_rfl) rfl Try.underlying238 ⟨rfl, rfl⟩ (ag_ok (by kernel_rfl) (by kernel_rfl) (fun ds h => by cases (Try.underlying238.symm.trans h) <;> rfl))
theorem ty239 : TyOK Try.prog TT 239 ⟨.array 4 238, 8, 64⟩ := ty_ok (f := Try.t239) (by kernel_rfl) rfl rfl (.fa2 4 2 .i64 zF2) (by kernel_rfl) (by kernel_rfl) rfl Try.underlying239 ⟨rfl, rfl⟩ (ag_ok (by kernel_rfl) (by kernel_rfl) (fun ds h => by cases (Try.underlying239.symm.trans h) <;> rfl))
theorem ty246 : TyOK Try.prog TT 246 ⟨.int .i64, 1, 8⟩ := ty_ok (f := Try.t246) (by kernel_rfl) rfl rfl (.v (.int .i64 0)) (by kernel_rfl) (by kernel_rfl) rfl Try.underlying246 rfl (ag_no rfl)
theorem ty255 : TyOK Try.prog TT 255 ⟨.int .u64, 1, 8⟩ := ty_ok (f := Try.t255) (by kernel_rfl) rfl rfl (.v (.int .u64 0)) (by kernel_rfl) (by kernel_rfl) rfl Try.underlying255 rfl (ag_no rfl)
theorem ty259 : TyOK Try.prog TT 259 ⟨.ptr 3, 1, 8⟩ := ty_ok (f := Try.t259) (by kernel_rfl) rfl rfl (.v (.pointer none)) (by kernel_rfl) (by kernel_rfl) rfl Try.underlying259 rfl (ag_no rfl)
theorem ty261 : TyOK Try.prog TT 261 ⟨.ptr 255, 1, 8⟩ := ty_ok (f := Try.t261) (by kernel_rfl) rfl rfl (.v (.pointer none)) (by kernel_rfl) (by kernel_rfl) rfl Try.underlying261 rfl (ag_no rfl)
theorem ty267 : TyOK Try.prog TT 267 ⟨.array 0 16, 0, 0⟩ := ty_ok' (f := Try.t267) (by kernel_rfl) rfl rfl (by kernel_rfl) Try.underlying267 ⟨rfl, rfl⟩ (ag_ok (by kernel_rfl) (by kernel_rfl) (fun ds h => by cases (Try.underlying267.symm.trans h) <;> rfl))
theorem ty274 : TyOK Try.prog TT 274 ⟨.ptr 5, 1, 8⟩ := ty_ok (f := Try.t274) (by kernel_rfl) rfl rfl (.v (.pointer none)) (by kernel_rfl) (by kernel_rfl) rfl Try.underlying274 rfl (ag_no rfl)
theorem tab : TabOK Try.prog TT := tab_of ⟨ty2, ty3, ty4, ty5, ty9, ty12, ty15, ty16, ty17, ty21, ty22, ty24, ty25, ty26, ty27, ty38, ty42, ty46, ty50, ty53, ty61, ty73, ty79, ty84, ty97, ty98, ty99, ty101, ty102, ty103, ty104, ty111, ty128, ty135, ty139, ty140, ty141, ty143, ty144, ty145, ty157, ty159, ty167, ty171, ty172, ty177, ty178, ty179, ty183, ty184, ty185, ty186, ty187, ty190, ty191, ty192, ty197, ty198, ty199, ty211, ty212, ty215, ty223, ty230, ty238, ty239, ty246, ty255, ty259, ty261, ty267, ty274, trivial⟩
theorem mix : Try.prog.follows .mixedOrders = true := by kernel_rfl
end Go.RR
