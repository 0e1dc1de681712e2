/- The types of the program at hand. -/
import Derived.Test.YtkbolifaojmmhaaRo
import Derived.Test.YtkbolifaojmmhaaChecked
set_option linter.unusedVariables false
namespace Go.RR
open Go Go.Proofs

def TT : Tab := [(2, ⟨.int .i64, 1, 8⟩),
  (3, ⟨.int .i64, 1, 8⟩),
  (4, ⟨.bool, 1, 1⟩),
  (5, ⟨.int .u8, 1, 1⟩),
  (9, ⟨.str, 1, 16⟩),
  (12, ⟨.int .u64, 1, 8⟩),
  (15, ⟨.ptr 188, 1, 8⟩),
  (16, ⟨.ptr 191, 1, 8⟩),
  (17, ⟨.ptr 201, 1, 8⟩),
  (21, ⟨.int .i32, 1, 4⟩),
  (22, ⟨.int .i8, 1, 1⟩),
  (23, ⟨.array 144 5, 144, 144⟩),
  (24, ⟨.struct [(0, 22), (1, 22), (2, 23)], 146, 146⟩),
  (25, ⟨.struct [(0, 22), (1, 22), (2, 23)], 146, 146⟩),
  (26, ⟨.struct [(0, 22), (1, 22), (2, 23)], 146, 146⟩),
  (32, ⟨.slice 98, 1, 24⟩),
  (36, ⟨.slice 96, 1, 24⟩),
  (40, ⟨.slice 106, 1, 24⟩),
  (43, ⟨.slice 104, 1, 24⟩),
  (47, ⟨.slice 2, 1, 24⟩),
  (56, ⟨.slice 118, 1, 24⟩),
  (63, ⟨.slice 5, 1, 24⟩),
  (85, ⟨.ptr 26, 1, 8⟩),
  (94, ⟨.int .u16, 1, 2⟩),
  (95, ⟨.struct [(0, 22), (1, 94)], 2, 4⟩),
  (96, ⟨.struct [(0, 22), (1, 94)], 2, 4⟩),
  (98, ⟨.struct [(0, 22), (1, 94)], 2, 4⟩),
  (102, ⟨.int .i16, 1, 2⟩),
  (103, ⟨.struct [(0, 22), (1, 102)], 2, 4⟩),
  (104, ⟨.struct [(0, 22), (1, 102)], 2, 4⟩),
  (106, ⟨.struct [(0, 22), (1, 102)], 2, 4⟩),
  (113, ⟨.slice 3, 1, 24⟩),
  (117, ⟨.slice 102, 1, 24⟩),
  (118, ⟨.slice 102, 1, 24⟩),
  (121, ⟨.slice 168, 1, 24⟩),
  (126, ⟨.ptr 173, 1, 8⟩),
  (132, ⟨.int .u64, 1, 8⟩),
  (136, ⟨.ptr 141, 1, 8⟩),
  (140, ⟨.struct [(0, 36), (1, 43), (2, 47)], 3, 72⟩),
  (141, ⟨.struct [(0, 36), (1, 43), (2, 47)], 3, 72⟩),
  (151, ⟨.array 16 2, 16, 128⟩),
  (163, ⟨.slice 167, 1, 24⟩),
  (166, ⟨.struct [(0, 102), (1, 102)], 2, 4⟩),
  (167, ⟨.struct [(0, 102), (1, 102)], 2, 4⟩),
  (168, ⟨.array 2 2, 2, 16⟩),
  (171, ⟨.int .u64, 1, 8⟩),
  (172, ⟨.struct [(0, 63), (1, 3), (2, 171)], 3, 40⟩),
  (173, ⟨.struct [(0, 63), (1, 3), (2, 171)], 3, 40⟩),
  (176, ⟨.array 3 5, 3, 3⟩),
  (177, ⟨.array 3 5, 3, 3⟩),
  (178, ⟨.array 144 177, 432, 432⟩),
  (179, ⟨.struct [(0, 22), (1, 22), (2, 178)], 434, 434⟩),
  (180, ⟨.struct [(0, 22), (1, 22), (2, 178)], 434, 434⟩),
  (183, ⟨.array 4 168, 8, 64⟩),
  (184, ⟨.array 16 3, 16, 128⟩),
  (189, ⟨.array 0 16, 0, 0⟩),
  (193, ⟨.int .u32, 1, 4⟩),
  (197, ⟨.ptr 5, 1, 8⟩)]
theorem ty2 : TyOK Try.prog TT 2 ⟨.int .i64, 1, 8⟩ := ty_ok (f := Try.t2) (by kernel_rfl) rfl rfl (.v (.int .i64 0)) (by kernel_rfl) (by kernel_rfl) rfl Try.underlying2 rfl (ag_no rfl)
theorem ty3 : TyOK Try.prog TT 3 ⟨.int .i64, 1, 8⟩ := ty_ok (f := Try.t3) (by kernel_rfl) rfl rfl (.v (.int .i64 0)) (by kernel_rfl) (by kernel_rfl) rfl Try.underlying3 rfl (ag_no rfl)
theorem ty4 : TyOK Try.prog TT 4 ⟨.bool, 1, 1⟩ := ty_ok (f := Try.t4) (by kernel_rfl) rfl rfl (.v (.bool false)) (by kernel_rfl) (by kernel_rfl) rfl Try.underlying4 trivial (ag_no rfl)
theorem ty5 : TyOK Try.prog TT 5 ⟨.int .u8, 1, 1⟩ := ty_ok (f := Try.t5) (by kernel_rfl) rfl rfl (.v (.int .u8 0)) (by kernel_rfl) (by kernel_rfl) rfl Try.underlying5 rfl (ag_no rfl)
theorem ty9 : TyOK Try.prog TT 9 ⟨.str, 1, 16⟩ := ty_ok (f := Try.t9) (by kernel_rfl) rfl rfl (.v (.string (⟨#[]⟩ : ByteArray))) (by kernel_rfl) (by kernel_rfl) rfl Try.underlying9 trivial (ag_no rfl)
theorem ty12 : TyOK Try.prog TT 12 ⟨.int .u64, 1, 8⟩ := ty_ok (f := Try.t12) (by kernel_rfl) rfl rfl (.v (.int .u64 0)) (by kernel_rfl) (by kernel_rfl) rfl Try.underlying12 rfl (ag_no rfl)
theorem ty15 : TyOK Try.prog TT 15 ⟨.ptr 188, 1, 8⟩ := ty_ok (f := Try.t15) (by kernel_rfl) rfl rfl (.v (.pointer none)) (by kernel_rfl) (by kernel_rfl) rfl Try.underlying15 rfl (ag_no rfl)
theorem ty16 : TyOK Try.prog TT 16 ⟨.ptr 191, 1, 8⟩ := ty_ok (f := Try.t16) (by kernel_rfl) rfl rfl (.v (.pointer none)) (by kernel_rfl) (by kernel_rfl) rfl Try.underlying16 rfl (ag_no rfl)
theorem ty17 : TyOK Try.prog TT 17 ⟨.ptr 201, 1, 8⟩ := ty_ok (f := Try.t17) (by kernel_rfl) rfl rfl (.v (.pointer none)) (by kernel_rfl) (by kernel_rfl) rfl Try.underlying17 rfl (ag_no rfl)
theorem ty21 : TyOK Try.prog TT 21 ⟨.int .i32, 1, 4⟩ := ty_ok (f := Try.t21) (by kernel_rfl) rfl rfl (.v (.int .i32 0)) (by kernel_rfl) (by kernel_rfl) rfl Try.underlying21 rfl (ag_no rfl)
theorem ty22 : TyOK Try.prog TT 22 ⟨.int .i8, 1, 1⟩ := ty_ok (f := Try.t22) (by kernel_rfl) rfl rfl (.v (.int .i8 0)) (by kernel_rfl) (by kernel_rfl) rfl Try.underlying22 rfl (ag_no rfl)
theorem ty23 : TyOK Try.prog TT 23 ⟨.array 144 5, 144, 144⟩ := ty_ok (f := Try.t23) (by kernel_rfl) rfl rfl (.fa 144 .u8 zF) (by kernel_rfl) (by kernel_rfl) rfl Try.underlying23 ⟨rfl, rfl⟩ (ag_ok (by kernel_rfl) (by kernel_rfl) (fun ds h => by cases (Try.underlying23.symm.trans h) <;> rfl))
theorem ty24 : TyOK Try.prog TT 24 ⟨.struct [(0, 22), (1, 22), (2, 23)], 146, 146⟩ := ty_ok (f := Try.t24) (by kernel_rfl) rfl rfl (.rc [.v (.int .i8 0), .v (.int .i8 0), .fa 144 .u8 zF]) (by kernel_rfl) (by kernel_rfl) rfl Try.underlying24 rfl (ag_ok (by kernel_rfl) (by kernel_rfl) (fun ds h => by cases (Try.underlying24.symm.trans h) <;> rfl))
theorem ty25 : TyOK Try.prog TT 25 ⟨.struct [(0, 22), (1, 22), (2, 23)], 146, 146⟩ := ty_ok (f := Try.t25) (by kernel_rfl) rfl rfl (.rc [.v (.int .i8 0), .v (.int .i8 0), .fa 144 .u8 zF]) (by kernel_rfl) (by kernel_rfl) rfl Try.underlying25 rfl (ag_ok (by kernel_rfl) (by kernel_rfl) (fun ds h => by cases (Try.underlying25.symm.trans h) <;> rfl))
theorem ty26 : TyOK Try.prog TT 26 ⟨.struct [(0, 22), (1, 22), (2, 23)], 146, 146⟩ := ty_ok (f := Try.t26) (by kernel_rfl) rfl rfl (.rc [.v (.int .i8 0), .v (.int .i8 0), .fa 144 .u8 zF]) (by kernel_rfl) (by kernel_rfl) rfl Try.underlying26 rfl (ag_ok (by kernel_rfl) (by kernel_rfl) (fun ds h => by cases (Try.underlying26.symm.trans h) <;> rfl))
theorem ty32 : TyOK Try.prog TT 32 ⟨.slice 98, 1, 24⟩ := ty_ok (f := Try.t32) (by kernel_rfl) rfl rfl (.nil (.st [(.i .i8), (.i .u16)])) (by kernel_rfl) (by kernel_rfl) rfl Try.underlying32 rfl (ag_no rfl)
theorem ty36 : TyOK Try.prog TT 36 ⟨.slice 96, 1, 24⟩ := ty_ok (f := Try.t36) (by kernel_rfl) rfl rfl (.nil (.st [(.i .i8), (.i .u16)])) (by kernel_rfl) (by kernel_rfl) rfl Try.underlying36 rfl (ag_no rfl)
theorem ty40 : TyOK Try.prog TT 40 ⟨.slice 106, 1, 24⟩ := ty_ok (f := Try.t40) (by kernel_rfl) rfl rfl (.nil (.st [(.i .i8), (.i .i16)])) (by kernel_rfl) (by kernel_rfl) rfl Try.underlying40 rfl (ag_no rfl)
theorem ty43 : TyOK Try.prog TT 43 ⟨.slice 104, 1, 24⟩ := ty_ok (f := Try.t43) (by kernel_rfl) rfl rfl (.nil (.st [(.i .i8), (.i .i16)])) (by kernel_rfl) (by kernel_rfl) rfl Try.underlying43 rfl (ag_no rfl)
theorem ty47 : TyOK Try.prog TT 47 ⟨.slice 2, 1, 24⟩ := ty_ok (f := Try.t47) (by kernel_rfl) rfl rfl (.nil (.one (.i .i64))) (by kernel_rfl) (by kernel_rfl) rfl Try.underlying47 rfl (ag_no rfl)
theorem ty56 : TyOK Try.prog TT 56 ⟨.slice 118, 1, 24⟩ := ty_ok (f := Try.t56) (by kernel_rfl) rfl rfl (.nil (.one (.ls .i16))) (by kernel_rfl) (by kernel_rfl) rfl Try.underlying56 rfl (ag_no rfl)
theorem ty63 : TyOK Try.prog TT 63 ⟨.slice 5, 1, 24⟩ := ty_ok (f := Try.t63) (by kernel_rfl) rfl rfl (.nil (.one (.i .u8))) (by kernel_rfl) (by kernel_rfl) rfl Try.underlying63 rfl (ag_no rfl)
theorem ty85 : TyOK Try.prog TT 85 ⟨.ptr 26, 1, 8⟩ := ty_ok (f := Try.t85) (by kernel_rfl) rfl rfl (.v (.pointer none)) (by kernel_rfl) (by kernel_rfl) rfl Try.underlying85 rfl (ag_no rfl)
theorem ty94 : TyOK Try.prog TT 94 ⟨.int .u16, 1, 2⟩ := ty_ok (f := Try.t94) (by kernel_rfl) rfl rfl (.v (.int .u16 0)) (by kernel_rfl) (by kernel_rfl) rfl Try.underlying94 rfl (ag_no rfl)
theorem ty95 : TyOK Try.prog TT 95 ⟨.struct [(0, 22), (1, 94)], 2, 4⟩ := ty_ok (f := Try.t95) (by kernel_rfl) rfl rfl (.rc [.v (.int .i8 0), .v (.int .u16 0)]) (by kernel_rfl) (by kernel_rfl) rfl Try.underlying95 rfl (ag_ok (by kernel_rfl) (by kernel_rfl) (fun ds h => by cases (Try.underlying95.symm.trans h) <;> rfl))
theorem ty96 : TyOK Try.prog TT 96 ⟨.struct [(0, 22), (1, 94)], 2, 4⟩ := ty_ok (f := Try.t96) (by kernel_rfl) rfl rfl (.rc [.v (.int .i8 0), .v (.int .u16 0)]) (by kernel_rfl) (by kernel_rfl) rfl Try.underlying96 rfl (ag_ok (by kernel_rfl) (by kernel_rfl) (fun ds h => by cases (Try.underlying96.symm.trans h) <;> rfl))
theorem ty98 : TyOK Try.prog TT 98 ⟨.struct [(0, 22), (1, 94)], 2, 4⟩ := ty_ok (f := Try.t98) (by kernel_rfl) rfl rfl (.rc [.v (.int .i8 0), .v (.int .u16 0)]) (by kernel_rfl) (by kernel_rfl) rfl Try.underlying98 rfl (ag_ok (by kernel_rfl) (by kernel_rfl) (fun ds h => by cases (Try.underlying98.symm.trans h) <;> rfl))
theorem ty102 : TyOK Try.prog TT 102 ⟨.int .i16, 1, 2⟩ := ty_ok (f := Try.t102) (by kernel_rfl) rfl rfl (.v (.int .i16 0)) (by kernel_rfl) (by kernel_rfl) rfl Try.underlying102 rfl (ag_no rfl)
theorem ty103 : TyOK Try.prog TT 103 ⟨.struct [(0, 22), (1, 102)], 2, 4⟩ := ty_ok (f := Try.t103) (by kernel_rfl) rfl rfl (.rc [.v (.int .i8 0), .v (.int .i16 0)]) (by kernel_rfl) (by kernel_rfl) rfl Try.underlying103 rfl (ag_ok (by kernel_rfl) (by kernel_rfl) (fun ds h => by cases (Try.underlying103.symm.trans h) <;> rfl))
theorem ty104 : TyOK Try.prog TT 104 ⟨.struct [(0, 22), (1, 102)], 2, 4⟩ := ty_ok (f := Try.t104) (by kernel_rfl) rfl rfl (.rc [.v (.int .i8 0), .v (.int .i16 0)]) (by kernel_rfl) (by kernel_rfl) rfl Try.underlying104 rfl (ag_ok (by kernel_rfl) (by kernel_rfl) (fun ds h => by cases (Try.underlying104.symm.trans h) <;> rfl))
theorem ty106 : TyOK Try.prog TT 106 ⟨.struct [(0, 22), (1, 102)], 2, 4⟩ := ty_ok (f := Try.t106) (by kernel_rfl) rfl rfl (.rc [.v (.int .i8 0), .v (.int .i16 0)]) (by kernel_rfl) (by kernel_rfl) rfl Try.underlying106 rfl (ag_ok (by kernel_rfl) (by kernel_rfl) (fun ds h => by cases (Try.underlying106.symm.trans h) <;> rfl))
theorem ty113 : TyOK Try.prog TT 113 ⟨.slice 3, 1, 24⟩ := ty_ok (f := Try.t113) (by kernel_rfl) rfl rfl (.nil (.one (.i .i64))) (by kernel_rfl) (by kernel_rfl) rfl Try.underlying113 rfl (ag_no rfl)
theorem ty117 : TyOK Try.prog TT 117 ⟨.slice 102, 1, 24⟩ := ty_ok (f := Try.t117) (by kernel_rfl) rfl rfl (.nil (.one (.i .i16))) (by kernel_rfl) (by kernel_rfl) rfl Try.underlying117 rfl (ag_no rfl)
theorem ty118 : TyOK Try.prog TT 118 ⟨.slice 102, 1, 24⟩ := ty_ok (f := Try.t118) (by kernel_rfl) rfl rfl (.nil (.one (.i .i16))) (by kernel_rfl) (by kernel_rfl) rfl Try.underlying118 rfl (ag_no rfl)
theorem ty121 : TyOK Try.prog TT 121 ⟨.slice 168, 1, 24⟩ := ty_ok (f := Try.t121) (by kernel_rfl) rfl rfl (.nil (.one (.fa 2 .i64))) (by kernel_rfl) (by kernel_rfl) rfl Try.underlying121 rfl (ag_no rfl)
theorem ty126 : TyOK Try.prog TT 126 ⟨.ptr 173, 1, 8⟩ := ty_ok (f := Try.t126) (by kernel_rfl) rfl rfl (.v (.pointer none)) (by kernel_rfl) (by kernel_rfl) rfl Try.underlying126 rfl (ag_no rfl)
theorem ty132 : TyOK Try.prog TT 132 ⟨.int .u64, 1, 8⟩ := ty_ok (f := Try.t132) (by kernel_rfl) rfl rfl (.v (.int .u64 0)) (by kernel_rfl) (by kernel_rfl) rfl Try.underlying132 rfl (ag_no rfl)
theorem ty136 : TyOK Try.prog TT 136 ⟨.ptr 141, 1, 8⟩ := ty_ok (f := Try.t136) (by kernel_rfl) rfl rfl (.v (.pointer none)) (by kernel_rfl) (by kernel_rfl) rfl Try.underlying136 rfl (ag_no rfl)
theorem ty140 : TyOK Try.prog TT 140 ⟨.struct [(0, 36), (1, 43), (2, 47)], 3, 72⟩ := ty_ok (f := Try.t140) (by kernel_rfl) rfl rfl (.rc [.nil (.st [(.i .i8), (.i .u16)]), .nil (.st [(.i .i8), (.i .i16)]), .nil (.one (.i .i64))]) (by kernel_rfl) (by kernel_rfl) rfl Try.underlying140 rfl (ag_ok (by kernel_rfl) (by kernel_rfl) (fun ds h => by cases (Try.underlying140.symm.trans h) <;> rfl))
theorem ty141 : TyOK Try.prog TT 141 ⟨.struct [(0, 36), (1, 43), (2, 47)], 3, 72⟩ := ty_ok (f := Try.t141) (by kernel_rfl) rfl rfl (.rc [.nil (.st [(.i .i8), (.i .u16)]), .nil (.st [(.i .i8), (.i .i16)]), .nil (.one (.i .i64))]) (by kernel_rfl) (by kernel_rfl) rfl Try.underlying141 rfl (ag_ok (by kernel_rfl) (by kernel_rfl) (fun ds h => by cases (Try.underlying141.symm.trans h) <;> rfl))
theorem ty151 : TyOK Try.prog TT 151 ⟨.array 16 2, 16, 128⟩ := ty_ok (f := Try.t151) (by kernel_rfl) rfl rfl (.fa 16 .i64 zF) (by kernel_rfl) (by kernel_rfl) rfl Try.underlying151 ⟨rfl, rfl⟩ (ag_ok (by kernel_rfl) (by kernel_rfl) (fun ds h => by cases (Try.underlying151.symm.trans h) <;> rfl))
theorem ty163 : TyOK Try.prog TT 163 ⟨.slice 167, 1, 24⟩ := ty_ok (f := Try.t163) (by kernel_rfl) rfl rfl (.nil (.st [(.i .i16), (.i .i16)])) (by kernel_rfl) (by kernel_rfl) rfl Try.underlying163 rfl (ag_no rfl)
theorem ty166 : TyOK Try.prog TT 166 ⟨.struct [(0, 102), (1, 102)], 2, 4⟩ := ty_ok (f := Try.t166) (by kernel_rfl) rfl rfl (.rc [.v (.int .i16 0), .v (.int .i16 0)]) (by kernel_rfl) (by kernel_rfl) rfl Try.underlying166 rfl (ag_ok (by kernel_rfl) (by kernel_rfl) (fun ds h => by cases (Try.underlying166.symm.trans h) <;> rfl))
theorem ty167 : TyOK Try.prog TT 167 ⟨.struct [(0, 102), (1, 102)], 2, 4⟩ := ty_ok (f := Try.t167) (by kernel_rfl) rfl rfl (.rc [.v (.int .i16 0), .v (.int .i16 0)]) (by kernel_rfl) (by kernel_rfl) rfl Try.underlying167 rfl (ag_ok (by kernel_rfl) (by kernel_rfl) (fun ds h => by cases (Try.underlying167.symm.trans h) <;> rfl))
theorem ty168 : TyOK Try.prog TT 168 ⟨.array 2 2, 2, 16⟩ := ty_ok (f := Try.t168) (by kernel_rfl) rfl rfl (.fa 2 .i64 zF) (by kernel_rfl) (by kernel_rfl) rfl Try.underlying168 ⟨rfl, rfl⟩ (ag_ok (by kernel_rfl) (by kernel_rfl) (fun ds h => by cases (Try.underlying168.symm.trans h) <;> rfl))
theorem ty171 : TyOK Try.prog TT 171 ⟨.int .u64, 1, 8⟩ := ty_ok (f := Try.t171) (by kernel_rfl) rfl rfl (.v (.int .u64 0)) (by kernel_rfl) (by kernel_rfl) rfl Try.underlying171 rfl (ag_no rfl)
theorem ty172 : TyOK Try.prog TT 172 ⟨.struct [(0, 63), (1, 3), (2, 171)], 3, 40⟩ := ty_ok (f := Try.t172) (by kernel_rfl) rfl rfl (.rc [.nil (.one (.i .u8)), .v (.int .i64 0), .v (.int .u64 0)]) (by kernel_rfl) (by kernel_rfl) rfl Try.underlying172 rfl (ag_ok (by kernel_rfl) (by kernel_rfl) (fun ds h => by cases (Try.underlying172.symm.trans h) <;> rfl))
theorem ty173 : TyOK Try.prog TT 173 ⟨.struct [(0, 63), (1, 3), (2, 171)], 3, 40⟩ := ty_ok (f := Try.t173) (by kernel_rfl) rfl rfl (.rc [.nil (.one (.i .u8)), .v (.int .i64 0), .v (.int .u64 0)]) (by kernel_rfl) (by kernel_rfl) rfl Try.underlying173 rfl (ag_ok (by kernel_rfl) (by kernel_rfl) (fun ds h => by cases (Try.underlying173.symm.trans h) <;> rfl))
theorem ty176 : TyOK Try.prog TT 176 ⟨.array 3 5, 3, 3⟩ := ty_ok (f := Try.t176) (by kernel_rfl) rfl rfl (.fa 3 .u8 zF) (by kernel_rfl) (by kernel_rfl) rfl Try.underlying176 ⟨rfl, rfl⟩ (ag_ok (by kernel_rfl) (by kernel_rfl) (fun ds h => by cases (Try.underlying176.symm.trans h) <;> rfl))
theorem ty177 : TyOK Try.prog TT 177 ⟨.array 3 5, 3, 3⟩ := ty_ok (f := Try.t177) (by kernel_rfl) rfl rfl (.fa 3 .u8 zF) (by kernel_rfl) (by kernel_rfl) rfl Try.underlying177 ⟨rfl, rfl⟩ (ag_ok (by kernel_rfl) (by kernel_rfl) (fun ds h => by cases (Try.underlying177.symm.trans h) <;> rfl))
theorem ty178 : TyOK Try.prog TT 178 ⟨.array 144 177, 432, 432⟩ := ty_ok (f := Try.t178) (by kernel_rfl) rfl rfl (.fa2 144 3 .u8 zF2) (by kernel_rfl) (by kernel_rfl) rfl Try.underlying178 ⟨rfl, rfl⟩ (ag_ok (by kernel_rfl) (by kernel_rfl) (fun ds h => by cases (Try.underlying178.symm.trans h) <;> rfl))
theorem ty179 : TyOK Try.prog TT 179 ⟨.struct [(0, 22), (1, 22), (2, 178)], 434, 434⟩ := ty_ok (f := Try.t179) (by kernel_rfl) rfl rfl (.rc [.v (.int .i8 0), .v (.int .i8 0), .fa2 144 3 .u8 zF2]) (by kernel_rfl) (by kernel_rfl) rfl Try.underlying179 rfl (ag_ok (by kernel_rfl) (by kernel_rfl) (fun ds h => by cases (Try.underlying179.symm.trans h) <;> rfl))
theorem ty180 : TyOK Try.prog TT 180 ⟨.struct [(0, 22), (1, 22), (2, 178)], 434, 434⟩ := ty_ok (f := Try.t180) (by kernel_rfl) rfl rfl (.rc [.v (.int .i8 0), .v (.int .i8 0), .fa2 144 3 .u8 zF2]) (by kernel_rfl) (by kernel_rfl) rfl Try.underlying180 rfl (ag_ok (by kernel_rfl) (by kernel_rfl) (fun ds h => by cases (Try.underlying180.symm.trans h) <;> rfl))
theorem ty183 : TyOK Try.prog TT 183 ⟨.array 4 168, 8, 64⟩ := ty_ok (f := Try.t183) (by kernel_rfl) rfl rfl (.fa2 4 2 .i64 zF2) (by kernel_rfl) (by kernel_rfl) rfl Try.underlying183 ⟨rfl, rfl⟩ (ag_ok (by kernel_rfl) (by kernel_rfl) (fun ds h => by cases (Try.underlying183.symm.trans h) <;> rfl))
theorem ty184 : TyOK Try.prog TT 184 ⟨.array 16 3, 16, 128⟩ := ty_ok (f := Try.t184) (by kernel_rfl) rfl rfl (.fa 16 .i64 zF) (by kernel_rfl) (by kernel_rfl) rfl Try.underlying184 ⟨rfl, rfl⟩ (ag_ok (by kernel_rfl) (by kernel_rfl) (fun ds h => by cases (Try.underlying184.symm.trans h) <;> rfl))
theorem ty189 : TyOK Try.prog TT 189 ⟨.array 0 16, 0, 0⟩ := ty_ok' (f := Try.t189) (by kernel_rfl) rfl rfl (by kernel_rfl) Try.underlying189 ⟨rfl, rfl⟩ (ag_ok (by kernel_rfl) (by kernel_rfl) (fun ds h => by cases (Try.underlying189.symm.trans h) <;> rfl))
theorem ty193 : TyOK Try.prog TT 193 ⟨.int .u32, 1, 4⟩ := ty_ok (f := Try.t193) (by kernel_rfl) rfl rfl (.v (.int .u32 0)) (by kernel_rfl) (by kernel_rfl) rfl Try.underlying193 rfl (ag_no rfl)
theorem ty197 : TyOK Try.prog TT 197 ⟨.ptr 5, 1, 8⟩ := ty_ok (f := Try.t197) (by kernel_rfl) rfl rfl (.v (.pointer none)) (by kernel_rfl) (by kernel_rfl) rfl Try.underlying197 rfl (ag_no rfl)
theorem tab : TabOK Try.prog TT := tab_of ⟨ty2, ty3, ty4, ty5, ty9, ty12, ty15, ty16, ty17, ty21, ty22, ty23, ty24, ty25, ty26, ty32, ty36, ty40, ty43, ty47, ty56, ty63, ty85, ty94, ty95, ty96, ty98, ty102, ty103, ty104, ty106, ty113, ty117, ty118, ty121, ty126, ty132, ty136, ty140, ty141, ty151, ty163, ty166, ty167, ty168, ty171, ty172, ty173, ty176, ty177, ty178, ty179, ty180, ty183, ty184, ty189, ty193, ty197, trivial⟩
theorem mix : Try.prog.follows .mixedOrders = true := by kernel_rfl
end Go.RR
