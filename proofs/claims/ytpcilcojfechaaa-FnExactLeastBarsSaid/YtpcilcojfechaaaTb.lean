/- The types of the program at hand. -/
import Derived.Test.YtpcilcojfechaaaRo
import Derived.Test.YtpcilcojfechaaaChecked
set_option linter.unusedVariables false
namespace Go.RR
open Go Go.Proofs

def TT : Tab := [(2, ⟨.int .i64, 1, 8⟩),
  (3, ⟨.int .i64, 1, 8⟩),
  (4, ⟨.bool, 1, 1⟩),
  (5, ⟨.int .u8, 1, 1⟩),
  (9, ⟨.str, 1, 16⟩),
  (12, ⟨.int .u64, 1, 8⟩),
  (15, ⟨.ptr 83, 1, 8⟩),
  (16, ⟨.ptr 86, 1, 8⟩),
  (17, ⟨.ptr 96, 1, 8⟩),
  (21, ⟨.int .i32, 1, 4⟩),
  (22, ⟨.slice 42, 1, 24⟩),
  (28, ⟨.slice 2, 1, 24⟩),
  (29, ⟨.slice 28, 1, 24⟩),
  (41, ⟨.slice 59, 1, 24⟩),
  (42, ⟨.slice 59, 1, 24⟩),
  (45, ⟨.slice 66, 1, 24⟩),
  (51, ⟨.ptr 53, 1, 8⟩),
  (52, ⟨.struct [(0, 2), (1, 2), (2, 28), (3, 28), (4, 2), (5, 2), (6, 4), (7, 4), (8, 29)], 9, 112⟩),
  (53, ⟨.struct [(0, 2), (1, 2), (2, 28), (3, 28), (4, 2), (5, 2), (6, 4), (7, 4), (8, 29)], 9, 112⟩),
  (55, ⟨.ptr 57, 1, 8⟩),
  (56, ⟨.struct [(0, 2), (1, 2), (2, 28), (3, 28), (4, 29), (5, 29), (6, 4), (7, 2), (8, 2)], 9, 136⟩),
  (57, ⟨.struct [(0, 2), (1, 2), (2, 28), (3, 28), (4, 29), (5, 29), (6, 4), (7, 2), (8, 2)], 9, 136⟩),
  (59, ⟨.int .i16, 1, 2⟩),
  (61, ⟨.slice 65, 1, 24⟩),
  (64, ⟨.struct [(0, 59), (1, 59)], 2, 4⟩),
  (65, ⟨.struct [(0, 59), (1, 59)], 2, 4⟩),
  (66, ⟨.array 2 2, 2, 16⟩),
  (80, ⟨.int .u64, 1, 8⟩),
  (84, ⟨.array 0 16, 0, 0⟩),
  (88, ⟨.int .u32, 1, 4⟩),
  (92, ⟨.ptr 5, 1, 8⟩)]
theorem ty2 : TyOK Try.prog TT 2 ⟨.int .i64, 1, 8⟩ := ty_ok (f := Try.t2) (by kernel_rfl) rfl rfl (.v (.int .i64 0)) (by kernel_rfl) (by kernel_rfl) rfl Try.underlying2 rfl (ag_no rfl)
theorem ty3 : TyOK Try.prog TT 3 ⟨.int .i64, 1, 8⟩ := ty_ok (f := Try.t3) (by kernel_rfl) rfl rfl (.v (.int .i64 0)) (by kernel_rfl) (by kernel_rfl) rfl Try.underlying3 rfl (ag_no rfl)
theorem ty4 : TyOK Try.prog TT 4 ⟨.bool, 1, 1⟩ := ty_ok (f := Try.t4) (by kernel_rfl) rfl rfl (.v (.bool false)) (by kernel_rfl) (by kernel_rfl) rfl Try.underlying4 trivial (ag_no rfl)
theorem ty5 : TyOK Try.prog TT 5 ⟨.int .u8, 1, 1⟩ := ty_ok (f := Try.t5) (by kernel_rfl) rfl rfl (.v (.int .u8 0)) (by kernel_rfl) (by kernel_rfl) rfl Try.underlying5 rfl (ag_no rfl)
theorem ty9 : TyOK Try.prog TT 9 ⟨.str, 1, 16⟩ := ty_ok (f := Try.t9) (by kernel_rfl) rfl rfl (.v (.string (⟨#[]⟩ : ByteArray))) (by kernel_rfl) (by kernel_rfl) rfl Try.underlying9 trivial (ag_no rfl)
theorem ty12 : TyOK Try.prog TT 12 ⟨.int .u64, 1, 8⟩ := ty_ok (f := Try.t12) (by kernel_rfl) rfl rfl (.v (.int .u64 0)) (by kernel_rfl) (by kernel_rfl) rfl Try.underlying12 rfl (ag_no rfl)
theorem ty15 : TyOK Try.prog TT 15 ⟨.ptr 83, 1, 8⟩ := ty_ok (f := Try.t15) (by kernel_rfl) rfl rfl (.v (.pointer none)) (by kernel_rfl) (by kernel_rfl) rfl Try.underlying15 rfl (ag_no rfl)
theorem ty16 : TyOK Try.prog TT 16 ⟨.ptr 86, 1, 8⟩ := ty_ok (f := Try.t16) (by kernel_rfl) rfl rfl (.v (.pointer none)) (by kernel_rfl) (by kernel_rfl) rfl Try.underlying16 rfl (ag_no rfl)
theorem ty17 : TyOK Try.prog TT 17 ⟨.ptr 96, 1, 8⟩ := ty_ok (f := Try.t17) (by kernel_rfl) rfl rfl (.v (.pointer none)) (by kernel_rfl) (by kernel_rfl) rfl Try.underlying17 rfl (ag_no rfl)
theorem ty21 : TyOK Try.prog TT 21 ⟨.int .i32, 1, 4⟩ := ty_ok (f := Try.t21) (by kernel_rfl) rfl rfl (.v (.int .i32 0)) (by kernel_rfl) (by kernel_rfl) rfl Try.underlying21 rfl (ag_no rfl)
theorem ty22 : TyOK Try.prog TT 22 ⟨.slice 42, 1, 24⟩ := ty_ok (f := Try.t22) (by kernel_rfl) rfl rfl (.nil (.one (.ls .i16))) (by kernel_rfl) (by kernel_rfl) rfl Try.underlying22 rfl (ag_no rfl)
theorem ty28 : TyOK Try.prog TT 28 ⟨.slice 2, 1, 24⟩ := ty_ok (f := Try.t28) (by kernel_rfl) rfl rfl (.nil (.one (.i .i64))) (by kernel_rfl) (by kernel_rfl) rfl Try.underlying28 rfl (ag_no rfl)
theorem ty29 : TyOK Try.prog TT 29 ⟨.slice 28, 1, 24⟩ := ty_ok (f := Try.t29) (by kernel_rfl) rfl rfl (.nil (.one (.ls .i64))) (by kernel_rfl) (by kernel_rfl) rfl Try.underlying29 rfl (ag_no rfl)
theorem ty41 : TyOK Try.prog TT 41 ⟨.slice 59, 1, 24⟩ := ty_ok (f := Try.t41) (by kernel_rfl) rfl rfl (.nil (.one (.i .i16))) (by kernel_rfl) (by kernel_rfl) rfl Try.underlying41 rfl (ag_no rfl)
theorem ty42 : TyOK Try.prog TT 42 ⟨.slice 59, 1, 24⟩ := ty_ok (f := Try.t42) (by kernel_rfl) rfl rfl (.nil (.one (.i .i16))) (by kernel_rfl) (by kernel_rfl) rfl Try.underlying42 rfl (ag_no rfl)
theorem ty45 : TyOK Try.prog TT 45 ⟨.slice 66, 1, 24⟩ := ty_ok (f := Try.t45) (by kernel_rfl) rfl rfl (.nil (.one (.fa 2 .i64))) (by kernel_rfl) (by kernel_rfl) rfl Try.underlying45 rfl (ag_no rfl)
theorem ty51 : TyOK Try.prog TT 51 ⟨.ptr 53, 1, 8⟩ := ty_ok (f := Try.t51) (by kernel_rfl) rfl rfl (.v (.pointer none)) (by kernel_rfl) (by kernel_rfl) rfl Try.underlying51 rfl (ag_no rfl)
theorem ty52 : TyOK Try.prog TT 52 ⟨.struct [(0, 2), (1, 2), (2, 28), (3, 28), (4, 2), (5, 2), (6, 4), (7, 4), (8, 29)], 9, 112⟩ := ty_ok (f := Try.t52) (by kernel_rfl) rfl rfl (.rc [.v (.int .i64 0), .v (.int .i64 0), .nil (.one (.i .i64)), .nil (.one (.i .i64)), .v (.int .i64 0), .v (.int .i64 0), .v (.bool false), .v (.bool false), .nil (.one (.ls .i64))]) (by kernel_rfl) (by kernel_rfl) rfl Try.underlying52 rfl (ag_ok (by kernel_rfl) (by kernel_rfl) (fun ds h => by cases (Try.underlying52.symm.trans h) <;> rfl))
theorem ty53 : TyOK Try.prog TT 53 ⟨.struct [(0, 2), (1, 2), (2, 28), (3, 28), (4, 2), (5, 2), (6, 4), (7, 4), (8, 29)], 9, 112⟩ := ty_ok (f := Try.t53) (by kernel_rfl) rfl rfl (.rc [.v (.int .i64 0), .v (.int .i64 0), .nil (.one (.i .i64)), .nil (.one (.i .i64)), .v (.int .i64 0), .v (.int .i64 0), .v (.bool false), .v (.bool false), .nil (.one (.ls .i64))]) (by kernel_rfl) (by kernel_rfl) rfl Try.underlying53 rfl (ag_ok (by kernel_rfl) (by kernel_rfl) (fun ds h => by cases (Try.underlying53.symm.trans h) <;> rfl))
theorem ty55 : TyOK Try.prog TT 55 ⟨.ptr 57, 1, 8⟩ := ty_ok (f := Try.t55) (by kernel_rfl) rfl rfl (.v (.pointer none)) (by kernel_rfl) (by kernel_rfl) rfl Try.underlying55 rfl (ag_no rfl)
theorem ty56 : TyOK Try.prog TT 56 ⟨.struct [(0, 2), (1, 2), (2, 28), (3, 28), (4, 29), (5, 29), (6, 4), (7, 2), (8, 2)], 9, 136⟩ := ty_ok (f := Try.t56) (by kernel_rfl) rfl rfl (.rc [.v (.int .i64 0), .v (.int .i64 0), .nil (.one (.i .i64)), .nil (.one (.i .i64)), .nil (.one (.ls .i64)), .nil (.one (.ls .i64)), .v (.bool false), .v (.int .i64 0), .v (.int .i64 0)]) (by kernel_rfl) (by kernel_rfl) rfl Try.underlying56 rfl (ag_ok (by kernel_rfl) (by kernel_rfl) (fun ds h => by cases (Try.underlying56.symm.trans h) <;> rfl))
theorem ty57 : TyOK Try.prog TT 57 ⟨.struct [(0, 2), (1, 2), (2, 28), (3, 28), (4, 29), (5, 29), (6, 4), (7, 2), (8, 2)], 9, 136⟩ := ty_ok (f := Try.t57) (by kernel_rfl) rfl rfl (.rc [.v (.int .i64 0), .v (.int .i64 0), .nil (.one (.i .i64)), .nil (.one (.i .i64)), .nil (.one (.ls .i64)), .nil (.one (.ls .i64)), .v (.bool false), .v (.int .i64 0), .v (.int .i64 0)]) (by kernel_rfl) (by kernel_rfl) rfl Try.underlying57 rfl (ag_ok (by kernel_rfl) (by kernel_rfl) (fun ds h => by cases (Try.underlying57.symm.trans h) <;> rfl))
theorem ty59 : TyOK Try.prog TT 59 ⟨.int .i16, 1, 2⟩ := ty_ok (f := Try.t59) (by kernel_rfl) rfl rfl (.v (.int .i16 0)) (by kernel_rfl) (by kernel_rfl) rfl Try.underlying59 rfl (ag_no rfl)
theorem ty61 : TyOK Try.prog TT 61 ⟨.slice 65, 1, 24⟩ := ty_ok (f := Try.t61) (by kernel_rfl) rfl rfl (.nil (.st [(.i .i16), (.i .i16)])) (by kernel_rfl) (by kernel_rfl) rfl Try.underlying61 rfl (ag_no rfl)
theorem ty64 : TyOK Try.prog TT 64 ⟨.struct [(0, 59), (1, 59)], 2, 4⟩ := ty_ok (f := Try.t64) (by kernel_rfl) rfl rfl (.rc [.v (.int .i16 0), .v (.int .i16 0)]) (by kernel_rfl) (by kernel_rfl) rfl Try.underlying64 rfl (ag_ok (by kernel_rfl) (by kernel_rfl) (fun ds h => by cases (Try.underlying64.symm.trans h) <;> rfl))
theorem ty65 : TyOK Try.prog TT 65 ⟨.struct [(0, 59), (1, 59)], 2, 4⟩ := ty_ok (f := Try.t65) (by kernel_rfl) rfl rfl (.rc [.v (.int .i16 0), .v (.int .i16 0)]) (by kernel_rfl) (by kernel_rfl) rfl Try.underlying65 rfl (ag_ok (by kernel_rfl) (by kernel_rfl) (fun ds h => by cases (Try.underlying65.symm.trans h) <;> rfl))
theorem ty66 : TyOK Try.prog TT 66 ⟨.array 2 2, 2, 16⟩ := ty_ok (f := Try.t66) (by kernel_rfl) rfl rfl (.fa 2 .i64 zF) (by kernel_rfl) (by kernel_rfl) rfl Try.underlying66 ⟨rfl, rfl⟩ (ag_ok (by kernel_rfl) (by kernel_rfl) (fun ds h => by cases (Try.underlying66.symm.trans h) <;> rfl))
theorem ty80 : TyOK Try.prog TT 80 ⟨.int .u64, 1, 8⟩ := ty_ok (f := Try.t80) (by kernel_rfl) rfl rfl (.v (.int .u64 0)) (by kernel_rfl) (by kernel_rfl) rfl Try.underlying80 rfl (ag_no rfl)
theorem ty84 : TyOK Try.prog TT 84 ⟨.array 0 16, 0, 0⟩ := ty_ok' (f := Try.t84) (by kernel_rfl) rfl rfl (by kernel_rfl) Try.underlying84 ⟨rfl, rfl⟩ (ag_ok (by kernel_rfl) (by kernel_rfl) (fun ds h => by cases (Try.underlying84.symm.trans h) <;> rfl))
theorem ty88 : TyOK Try.prog TT 88 ⟨.int .u32, 1, 4⟩ := ty_ok (f := Try.t88) (by kernel_rfl) rfl rfl (.v (.int .u32 0)) (by kernel_rfl) (by kernel_rfl) rfl Try.underlying88 rfl (ag_no rfl)
theorem ty92 : TyOK Try.prog TT 92 ⟨.ptr 5, 1, 8⟩ := ty_ok (f := Try.t92) (by kernel_rfl) rfl rfl (.v (.pointer none)) (by kernel_rfl) (by kernel_rfl) rfl Try.underlying92 rfl (ag_no rfl)
theorem tab : TabOK Try.prog TT := tab_of ⟨ty2, ty3, ty4, ty5, ty9, ty12, ty15, ty16, ty17, ty21, ty22, ty28, ty29, ty41, ty42, ty45, ty51, ty52, ty53, ty55, ty56, ty57, ty59, ty61, ty64, ty65, ty66, ty80, ty84, ty88, ty92, trivial⟩
theorem mix : Try.prog.follows .mixedOrders = true := by kernel_rfl
end Go.RR
