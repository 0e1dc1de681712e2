/- The types of the program at hand. -/
import Derived.Test.YtbmaolhjplapoaaDoorRo
import Derived.Test.YtbmaolhjplapoaaDoorChecked
set_option linter.unusedVariables false
namespace Go.RR
open Go Go.Proofs

def TT : Tab := [(2, ⟨.int .i64, 1, 8⟩),
  (3, ⟨.int .i64, 1, 8⟩),
  (4, ⟨.bool, 1, 1⟩),
  (5, ⟨.int .u8, 1, 1⟩),
  (9, ⟨.str, 1, 16⟩),
  (12, ⟨.int .u64, 1, 8⟩),
  (15, ⟨.ptr 193, 1, 8⟩),
  (16, ⟨.ptr 196, 1, 8⟩),
  (17, ⟨.ptr 204, 1, 8⟩),
  (21, ⟨.int .i32, 1, 4⟩),
  (22, ⟨.slice 35, 1, 24⟩),
  (23, ⟨.slice 35, 1, 24⟩),
  (29, ⟨.slice 5, 1, 24⟩),
  (35, ⟨.int .i16, 1, 2⟩),
  (36, ⟨.slice 23, 1, 24⟩),
  (42, ⟨.slice 86, 1, 24⟩),
  (48, ⟨.slice 2, 1, 24⟩),
  (53, ⟨.slice 94, 1, 24⟩),
  (58, ⟨.slice 9, 1, 24⟩),
  (76, ⟨.ptr 111, 1, 8⟩),
  (79, ⟨.slice 82, 1, 24⟩),
  (81, ⟨.struct [(0, 35), (1, 35)], 2, 4⟩),
  (82, ⟨.struct [(0, 35), (1, 35)], 2, 4⟩),
  (86, ⟨.array 2 2, 2, 16⟩),
  (91, ⟨.int .i8, 1, 1⟩),
  (92, ⟨.int .u16, 1, 2⟩),
  (93, ⟨.struct [(0, 91), (1, 92)], 2, 4⟩),
  (94, ⟨.struct [(0, 91), (1, 92)], 2, 4⟩),
  (95, ⟨.int .u64, 1, 8⟩),
  (109, ⟨.int .u64, 1, 8⟩),
  (110, ⟨.struct [(0, 29), (1, 3), (2, 109)], 3, 40⟩),
  (111, ⟨.struct [(0, 29), (1, 3), (2, 109)], 3, 40⟩),
  (129, ⟨.array 256 4, 256, 256⟩),
  (130, ⟨.array 256 4, 256, 256⟩),
  (134, ⟨.ptr 130, 1, 8⟩),
  (137, ⟨.slice 3, 1, 24⟩),
  (139, ⟨.ptr 141, 1, 8⟩),
  (140, ⟨.struct [(0, 139), (1, 29)], 2, 32⟩),
  (141, ⟨.struct [(0, 139), (1, 29)], 2, 32⟩),
  (152, ⟨.ptr 162, 1, 8⟩),
  (157, ⟨.ptr 5, 1, 8⟩),
  (165, ⟨.array 24 5, 24, 24⟩),
  (174, ⟨.array 256 5, 256, 256⟩),
  (175, ⟨.struct [(0, 5), (1, 5)], 2, 2⟩),
  (176, ⟨.struct [(0, 5), (1, 5)], 2, 2⟩),
  (177, ⟨.array 16 176, 32, 32⟩),
  (178, ⟨.int .u32, 1, 4⟩),
  (181, ⟨.ptr 183, 1, 8⟩),
  (182, ⟨.struct [(0, 9)], 1, 16⟩),
  (183, ⟨.struct [(0, 9)], 1, 16⟩),
  (185, ⟨.array 20 109, 20, 160⟩),
  (186, ⟨.array 65 5, 65, 65⟩),
  (190, ⟨.array 32 5, 32, 32⟩),
  (191, ⟨.array 64 5, 64, 64⟩),
  (194, ⟨.array 0 16, 0, 0⟩)]
theorem ty2 : TyOK Tryd.prog TT 2 ⟨.int .i64, 1, 8⟩ := ty_ok (f := Tryd.t2) (by kernel_rfl) rfl rfl (.v (.int .i64 0)) (by kernel_rfl) (by kernel_rfl) rfl Tryd.underlying2 rfl (ag_no rfl)
theorem ty3 : TyOK Tryd.prog TT 3 ⟨.int .i64, 1, 8⟩ := ty_ok (f := Tryd.t3) (by kernel_rfl) rfl rfl (.v (.int .i64 0)) (by kernel_rfl) (by kernel_rfl) rfl Tryd.underlying3 rfl (ag_no rfl)
theorem ty4 : TyOK Tryd.prog TT 4 ⟨.bool, 1, 1⟩ := ty_ok (f := Tryd.t4) (by kernel_rfl) rfl rfl (.v (.bool false)) (by kernel_rfl) (by kernel_rfl) rfl Tryd.underlying4 trivial (ag_no rfl)
theorem ty5 : TyOK Tryd.prog TT 5 ⟨.int .u8, 1, 1⟩ := ty_ok (f := Tryd.t5) (by kernel_rfl) rfl rfl (.v (.int .u8 0)) (by kernel_rfl) (by kernel_rfl) rfl Tryd.underlying5 rfl (ag_no rfl)
theorem ty9 : TyOK Tryd.prog TT 9 ⟨.str, 1, 16⟩ := ty_ok (f := Tryd.t9) (by kernel_rfl) rfl rfl (.v (.string (⟨#[]⟩ : ByteArray))) (by kernel_rfl) (by kernel_rfl) rfl Tryd.underlying9 trivial (ag_no rfl)
theorem ty12 : TyOK Tryd.prog TT 12 ⟨.int .u64, 1, 8⟩ := ty_ok (f := Tryd.t12) (by kernel_rfl) rfl rfl (.v (.int .u64 0)) (by kernel_rfl) (by kernel_rfl) rfl Tryd.underlying12 rfl (ag_no rfl)
theorem ty15 : TyOK Tryd.prog TT 15 ⟨.ptr 193, 1, 8⟩ := ty_ok (f := Tryd.t15) (by kernel_rfl) rfl rfl (.v (.pointer none)) (by kernel_rfl) (by kernel_rfl) rfl Tryd.underlying15 rfl (ag_no rfl)
theorem ty16 : TyOK Tryd.prog TT 16 ⟨.ptr 196, 1, 8⟩ := ty_ok (f := Tryd.t16) (by kernel_rfl) rfl rfl (.v (.pointer none)) (by kernel_rfl) (by kernel_rfl) rfl Tryd.underlying16 rfl (ag_no rfl)
theorem ty17 : TyOK Tryd.prog TT 17 ⟨.ptr 204, 1, 8⟩ := ty_ok (f := Tryd.t17) (by kernel_rfl) rfl rfl (.v (.pointer none)) (by kernel_rfl) (by kernel_rfl) rfl Tryd.underlying17 rfl (ag_no rfl)
theorem ty21 : TyOK Tryd.prog TT 21 ⟨.int .i32, 1, 4⟩ := ty_ok (f := Tryd.t21) (by kernel_rfl) rfl rfl (.v (.int .i32 0)) (by kernel_rfl) (by kernel_rfl) rfl Tryd.underlying21 rfl (ag_no rfl)
theorem ty22 : TyOK Tryd.prog TT 22 ⟨.slice 35, 1, 24⟩ := ty_ok (f := Tryd.t22) (by kernel_rfl) rfl rfl (.nil (.one (.i .i16))) (by kernel_rfl) (by kernel_rfl) rfl Tryd.underlying22 rfl (ag_no rfl)
theorem ty23 : TyOK Tryd.prog TT 23 ⟨.slice 35, 1, 24⟩ := ty_ok (f := Tryd.t23) (by kernel_rfl) rfl rfl (.nil (.one (.i .i16))) (by kernel_rfl) (by kernel_rfl) rfl Tryd.underlying23 rfl (ag_no rfl)
theorem ty29 : TyOK Tryd.prog TT 29 ⟨.slice 5, 1, 24⟩ := ty_ok (f := Tryd.t29) (by kernel_rfl) rfl rfl (.nil (.one (.i .u8))) (by kernel_rfl) (by kernel_rfl) rfl Tryd.underlying29 rfl (ag_no rfl)
theorem ty35 : TyOK Tryd.prog TT 35 ⟨.int .i16, 1, 2⟩ := ty_ok (f := Tryd.t35) (by kernel_rfl) rfl rfl (.v (.int .i16 0)) (by kernel_rfl) (by kernel_rfl) rfl Tryd.underlying35 rfl (ag_no rfl)
theorem ty36 : TyOK Tryd.prog TT 36 ⟨.slice 23, 1, 24⟩ := ty_ok (f := Tryd.t36) (by kernel_rfl) rfl rfl (.nil (.one (.ls .i16))) (by kernel_rfl) (by kernel_rfl) rfl Tryd.underlying36 rfl (ag_no rfl)
theorem ty42 : TyOK Tryd.prog TT 42 ⟨.slice 86, 1, 24⟩ := ty_ok (f := Tryd.t42) (by kernel_rfl) rfl rfl (.nil (.one (.fa 2 .i64))) (by kernel_rfl) (by kernel_rfl) rfl Tryd.underlying42 rfl (ag_no rfl)
theorem ty48 : TyOK Tryd.prog TT 48 ⟨.slice 2, 1, 24⟩ := ty_ok (f := Tryd.t48) (by kernel_rfl) rfl rfl (.nil (.one (.i .i64))) (by kernel_rfl) (by kernel_rfl) rfl Tryd.underlying48 rfl (ag_no rfl)
theorem ty53 : TyOK Tryd.prog TT 53 ⟨.slice 94, 1, 24⟩ := ty_ok (f := Tryd.t53) (by kernel_rfl) rfl rfl (.nil (.st [(.i .i8), (.i .u16)])) (by kernel_rfl) (by kernel_rfl) rfl Tryd.underlying53 rfl (ag_no rfl)
theorem ty58 : TyOK Tryd.prog TT 58 ⟨.slice 9, 1, 24⟩ := ty_ok (f := Tryd.t58) (by kernel_rfl) rfl rfl (.nil (.one .s)) (by kernel_rfl) (by kernel_rfl) rfl Tryd.underlying58 rfl (ag_no rfl)
theorem ty76 : TyOK Tryd.prog TT 76 ⟨.ptr 111, 1, 8⟩ := ty_ok (f := Tryd.t76) (by kernel_rfl) rfl rfl (.v (.pointer none)) (by kernel_rfl) (by kernel_rfl) rfl Tryd.underlying76 rfl (ag_no rfl)
theorem ty79 : TyOK Tryd.prog TT 79 ⟨.slice 82, 1, 24⟩ := ty_ok (f := Tryd.t79) (by kernel_rfl) rfl rfl (.nil (.st [(.i .i16), (.i .i16)])) (by kernel_rfl) (by kernel_rfl) rfl Tryd.underlying79 rfl (ag_no rfl)
theorem ty81 : TyOK Tryd.prog TT 81 ⟨.struct [(0, 35), (1, 35)], 2, 4⟩ := ty_ok (f := Tryd.t81) (by kernel_rfl) rfl rfl (.rc [.v (.int .i16 0), .v (.int .i16 0)]) (by kernel_rfl) (by kernel_rfl) rfl Tryd.underlying81 rfl (ag_ok (by kernel_rfl) (by kernel_rfl) (fun ds h => by cases (Tryd.underlying81.symm.trans h) <;> rfl))
theorem ty82 : TyOK Tryd.prog TT 82 ⟨.struct [(0, 35), (1, 35)], 2, 4⟩ := ty_ok (f := Tryd.t82) (by kernel_rfl) rfl rfl (.rc [.v (.int .i16 0), .v (.int .i16 0)]) (by kernel_rfl) (by kernel_rfl) rfl Tryd.underlying82 rfl (ag_ok (by kernel_rfl) (by kernel_rfl) (fun ds h => by cases (Tryd.underlying82.symm.trans h) <;> rfl))
theorem ty86 : TyOK Tryd.prog TT 86 ⟨.array 2 2, 2, 16⟩ := ty_ok (f := Tryd.t86) (by kernel_rfl) rfl rfl (.fa 2 .i64 zF) (by kernel_rfl) (by kernel_rfl) rfl Tryd.underlying86 ⟨rfl, rfl⟩ (ag_ok (by kernel_rfl) (by kernel_rfl) (fun ds h => by cases (Tryd.underlying86.symm.trans h) <;> rfl))
theorem ty91 : TyOK Tryd.prog TT 91 ⟨.int .i8, 1, 1⟩ := ty_ok (f := Tryd.t91) (by kernel_rfl) rfl rfl (.v (.int .i8 0)) (by kernel_rfl) (by kernel_rfl) rfl Tryd.underlying91 rfl (ag_no rfl)
theorem ty92 : TyOK Tryd.prog TT 92 ⟨.int .u16, 1, 2⟩ := ty_ok (f := Tryd.t92) (by kernel_rfl) rfl rfl (.v (.int .u16 0)) (by kernel_rfl) (by kernel_rfl) rfl Tryd.underlying92 rfl (ag_no rfl)
theorem ty93 : TyOK Tryd.prog TT 93 ⟨.struct [(0, 91), (1, 92)], 2, 4⟩ := ty_ok (f := Tryd.t93) (by kernel_rfl) rfl rfl (.rc [.v (.int .i8 0), .v (.int .u16 0)]) (by kernel_rfl) (by kernel_rfl) rfl Tryd.underlying93 rfl (ag_ok (by kernel_rfl) (by kernel_rfl) (fun ds h => by cases (Tryd.underlying93.symm.trans h) <;> rfl))
theorem ty94 : TyOK Tryd.prog TT 94 ⟨.struct [(0, 91), (1, 92)], 2, 4⟩ := ty_ok (f := Tryd.t94) (by kernel_rfl) rfl rfl (.rc [.v (.int .i8 0), .v (.int .u16 0)]) (by kernel_rfl) (by kernel_rfl) rfl Tryd.underlying94 rfl (ag_ok (by kernel_rfl) (by kernel_rfl) (fun ds h => by cases (Tryd.underlying94.symm.trans h) <;> rfl))
theorem ty95 : TyOK Tryd.prog TT 95 ⟨.int .u64, 1, 8⟩ := ty_ok (f := Tryd.t95) (by kernel_rfl) rfl rfl (.v (.int .u64 0)) (by kernel_rfl) (by kernel_rfl) rfl Tryd.underlying95 rfl (ag_no rfl)
theorem ty109 : TyOK Tryd.prog TT 109 ⟨.int .u64, 1, 8⟩ := ty_ok (f := Tryd.t109) (by kernel_rfl) rfl rfl (.v (.int .u64 0)) (by kernel_rfl) (by kernel_rfl) rfl Tryd.underlying109 rfl (ag_no rfl)
theorem ty110 : TyOK Tryd.prog TT 110 ⟨.struct [(0, 29), (1, 3), (2, 109)], 3, 40⟩ := ty_ok (f := Tryd.t110) (by kernel_rfl) rfl rfl (.rc [.nil (.one (.i .u8)), .v (.int .i64 0), .v (.int .u64 0)]) (by kernel_rfl) (by kernel_rfl) rfl Tryd.underlying110 rfl (ag_ok (by kernel_rfl) (by kernel_rfl) (fun ds h => by cases (Tryd.underlying110.symm.trans h) <;> rfl))
theorem ty111 : TyOK Tryd.prog TT 111 ⟨.struct [(0, 29), (1, 3), (2, 109)], 3, 40⟩ := ty_ok (f := Tryd.t111) (by kernel_rfl) rfl rfl (.rc [.nil (.one (.i .u8)), .v (.int .i64 0), .v (.int .u64 0)]) (by kernel_rfl) (by kernel_rfl) rfl Tryd.underlying111 rfl (ag_ok (by kernel_rfl) (by kernel_rfl) (fun ds h => by cases (Tryd.underlying111.symm.trans h) <;> rfl))
theorem ty129 : TyOK Tryd.prog TT 129 ⟨.array 256 4, 256, 256⟩ := ty_ok (f := Tryd.t129) (by kernel_rfl) rfl rfl (.fb 256 zB) (by kernel_rfl) (by kernel_rfl) rfl Tryd.underlying129 ⟨rfl, rfl⟩ (ag_ok (by kernel_rfl) (by kernel_rfl) (fun ds h => by cases (Tryd.underlying129.symm.trans h) <;> rfl))
theorem ty130 : TyOK Tryd.prog TT 130 ⟨.array 256 4, 256, 256⟩ := ty_ok (f := Tryd.t130) (by kernel_rfl) rfl rfl (.fb 256 zB) (by kernel_rfl) (by kernel_rfl) rfl Tryd.underlying130 ⟨rfl, rfl⟩ (ag_ok (by kernel_rfl) (by kernel_rfl) (fun ds h => by cases (Tryd.underlying130.symm.trans h) <;> rfl))
theorem ty134 : TyOK Tryd.prog TT 134 ⟨.ptr 130, 1, 8⟩ := ty_ok (f := Tryd.t134) (by kernel_rfl) rfl rfl (.v (.pointer none)) (by kernel_rfl) (by kernel_rfl) rfl Tryd.underlying134 rfl (ag_no rfl)
theorem ty137 : TyOK Tryd.prog TT 137 ⟨.slice 3, 1, 24⟩ := ty_ok (f := Tryd.t137) (by kernel_rfl) rfl rfl (.nil (.one (.i .i64))) (by kernel_rfl) (by kernel_rfl) rfl Tryd.underlying137 rfl (ag_no rfl)
theorem ty139 : TyOK Tryd.prog TT 139 ⟨.ptr 141, 1, 8⟩ := ty_ok (f := Tryd.t139) (by kernel_rfl) rfl rfl (.v (.pointer none)) (by kernel_rfl) (by kernel_rfl) rfl Tryd.underlying139 rfl (ag_no rfl)
theorem ty140 : TyOK Tryd.prog TT 140 ⟨.struct [(0, 139), (1, 29)], 2, 32⟩ := ty_ok (f := Tryd.t140) (by kernel_rfl) rfl rfl (.rc [.v (.pointer none), .nil (.one (.i .u8))]) (by kernel_rfl) (by kernel_rfl) rfl Tryd.underlying140 rfl (ag_ok (by kernel_rfl) (by kernel_rfl) (fun ds h => by cases (Tryd.underlying140.symm.trans h) <;> rfl))
theorem ty141 : TyOK Tryd.prog TT 141 ⟨.struct [(0, 139), (1, 29)], 2, 32⟩ := ty_ok (f := Tryd.t141) (by kernel_rfl) rfl rfl (.rc [.v (.pointer none), .nil (.one (.i .u8))]) (by kernel_rfl) (by kernel_rfl) rfl Tryd.underlying141 rfl (ag_ok (by kernel_rfl) (by kernel_rfl) (fun ds h => by cases (Tryd.underlying141.symm.trans h) <;> rfl))
theorem ty152 : TyOK Tryd.prog TT 152 ⟨.ptr 162, 1, 8⟩ := ty_ok (f := Tryd.t152) (by kernel_rfl) rfl rfl (.v (.pointer none)) (by kernel_rfl) (by kernel_rfl) rfl Tryd.underlying152 rfl (ag_no rfl)
theorem ty157 : TyOK Tryd.prog TT 157 ⟨.ptr 5, 1, 8⟩ := ty_ok (f := Tryd.t157) (by kernel_rfl) rfl rfl (.v (.pointer none)) (by kernel_rfl) (by kernel_rfl) rfl Tryd.underlying157 rfl (ag_no rfl)
theorem ty165 : TyOK Tryd.prog TT 165 ⟨.array 24 5, 24, 24⟩ := ty_ok (f := Tryd.t165) (by kernel_rfl) rfl rfl (.fa 24 .u8 zF) (by kernel_rfl) (by kernel_rfl) rfl Tryd.underlying165 ⟨rfl, rfl⟩ (ag_ok (by kernel_rfl) (by kernel_rfl) (fun ds h => by cases (Tryd.underlying165.symm.trans h) <;> rfl))
theorem ty174 : TyOK Tryd.prog TT 174 ⟨.array 256 5, 256, 256⟩ := ty_ok (f := Tryd.t174) (by kernel_rfl) rfl rfl (.fa 256 .u8 zF) (by kernel_rfl) (by kernel_rfl) rfl Tryd.underlying174 ⟨rfl, rfl⟩ (ag_ok (by kernel_rfl) (by kernel_rfl) (fun ds h => by cases (Tryd.underlying174.symm.trans h) <;> rfl))
theorem ty175 : TyOK Tryd.prog TT 175 ⟨.struct [(0, 5), (1, 5)], 2, 2⟩ := ty_ok (f := Tryd.t175) (by kernel_rfl) rfl rfl (.rc [.v (.int .u8 0), .v (.int .u8 0)]) (by kernel_rfl) (by kernel_rfl) rfl Tryd.underlying175 rfl (ag_ok (by kernel_rfl) (by kernel_rfl) (fun ds h => by cases (Tryd.underlying175.symm.trans h) <;> rfl))
theorem ty176 : TyOK Tryd.prog TT 176 ⟨.struct [(0, 5), (1, 5)], 2, 2⟩ := ty_ok (f := Tryd.t176) (by kernel_rfl) rfl rfl (.rc [.v (.int .u8 0), .v (.int .u8 0)]) (by kernel_rfl) (by kernel_rfl) rfl Tryd.underlying176 rfl (ag_ok (by kernel_rfl) (by kernel_rfl) (fun ds h => by cases (Tryd.underlying176.symm.trans h) <;> rfl))
theorem ty177 : TyOK Tryd.prog TT 177 ⟨.array 16 176, 32, 32⟩ := ty_ok' (f := Tryd.t177) (by kernel_rfl) rfl rfl (by kernel_rfl) Tryd.underlying177 ⟨rfl, rfl⟩ (ag_ok (by kernel_rfl) (by kernel_rfl) (fun ds h => by cases (Tryd.underlying177.symm.trans h) <;> rfl))
theorem ty178 : TyOK Tryd.prog TT 178 ⟨.int .u32, 1, 4⟩ := ty_ok (f := Tryd.t178) (by kernel_rfl) rfl rfl (.v (.int .u32 0)) (by kernel_rfl) (by kernel_rfl) rfl Tryd.underlying178 rfl (ag_no rfl)
theorem ty181 : TyOK Tryd.prog TT 181 ⟨.ptr 183, 1, 8⟩ := ty_ok (f := Tryd.t181) (by kernel_rfl) rfl rfl (.v (.pointer none)) (by kernel_rfl) (by kernel_rfl) rfl Tryd.underlying181 rfl (ag_no rfl)
theorem ty182 : TyOK Tryd.prog TT 182 ⟨.struct [(0, 9)], 1, 16⟩ := ty_ok (f := Tryd.t182) (by kernel_rfl) rfl rfl (.rc [.v (.string (⟨#[]⟩ : ByteArray))]) (by kernel_rfl) (by kernel_rfl) rfl Tryd.underlying182 rfl (ag_ok (by kernel_rfl) (by kernel_rfl) (fun ds h => by cases (Tryd.underlying182.symm.trans h) <;> rfl))
theorem ty183 : TyOK Tryd.prog TT 183 ⟨.struct [(0, 9)], 1, 16⟩ := ty_ok (f := Tryd.t183) (by kernel_rfl) rfl rfl (.rc [.v (.string (⟨#[]⟩ : ByteArray))]) (by kernel_rfl) (by kernel_rfl) rfl Tryd.underlying183 rfl (ag_ok (by kernel_rfl) (by kernel_rfl) (fun ds h => by cases (Tryd.underlying183.symm.trans h) <;> rfl))
theorem ty185 : TyOK Tryd.prog TT 185 ⟨.array 20 109, 20, 160⟩ := ty_ok (f := Tryd.t185) (by kernel_rfl) rfl rfl (.fa 20 .u64 zF) (by kernel_rfl) (by kernel_rfl) rfl Tryd.underlying185 ⟨rfl, rfl⟩ (ag_ok (by kernel_rfl) (by kernel_rfl) (fun ds h => by cases (Tryd.underlying185.symm.trans h) <;> rfl))
theorem ty186 : TyOK Tryd.prog TT 186 ⟨.array 65 5, 65, 65⟩ := ty_ok (f := Tryd.t186) (by kernel_rfl) rfl rfl (.fa 65 .u8 zF) (by kernel_rfl) (by kernel_rfl) rfl Tryd.underlying186 ⟨rfl, rfl⟩ (ag_ok (by kernel_rfl) (by kernel_rfl) (fun ds h => by cases (Tryd.underlying186.symm.trans h) <;> rfl))
theorem ty190 : TyOK Tryd.prog TT 190 ⟨.array 32 5, 32, 32⟩ := ty_ok (f := Tryd.t190) (by kernel_rfl) rfl rfl (.fa 32 .u8 zF) (by kernel_rfl) (by kernel_rfl) rfl Tryd.underlying190 ⟨rfl, rfl⟩ (ag_ok (by kernel_rfl) (by kernel_rfl) (fun ds h => by cases (Tryd.underlying190.symm.trans h) <;> rfl))
theorem ty191 : TyOK Tryd.prog TT 191 ⟨.array 64 5, 64, 64⟩ := ty_ok (f := Tryd.t191) (by kernel_rfl) rfl rfl (.fa 64 .u8 zF) (by kernel_rfl) (by kernel_rfl) rfl Tryd.underlying191 ⟨rfl, rfl⟩ (ag_ok (by kernel_rfl) (by kernel_rfl) (fun ds h => by cases (Tryd.underlying191.symm.trans h) <;> rfl))
theorem ty194 : TyOK Tryd.prog TT 194 ⟨.array 0 16, 0, 0⟩ := ty_ok' (f := Tryd.t194) (by kernel_rfl) rfl rfl (by kernel_rfl) Tryd.underlying194 ⟨rfl, rfl⟩ (ag_ok (by kernel_rfl) (by kernel_rfl) (fun ds h => by cases (Tryd.underlying194.symm.trans h) <;> rfl))
theorem tab : TabOK Tryd.prog TT := tab_of ⟨ty2, ty3, ty4, ty5, ty9, ty12, ty15, ty16, ty17, ty21, ty22, ty23, ty29, ty35, ty36, ty42, ty48, ty53, ty58, ty76, ty79, ty81, ty82, ty86, ty91, ty92, ty93, ty94, ty95, ty109, ty110, ty111, ty129, ty130, ty134, ty137, ty139, ty140, ty141, ty152, ty157, ty165, ty174, ty175, ty176, ty177, ty178, ty181, ty182, ty183, ty185, ty186, ty190, ty191, ty194, trivial⟩
theorem mix : Tryd.prog.follows .mixedOrders = true := by kernel_rfl
end Go.RR
