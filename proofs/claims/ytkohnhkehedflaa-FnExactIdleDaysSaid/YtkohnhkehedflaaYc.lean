/- IdleDays: the reference's answer and the program's are the same, for all arguments. No condition. -/
import Derived.Test.YtkohnhkehedflaaRows
import Derived.Test.YtkohnhkehedflaaPs
import Derived.Test.YtkohnhkehedflaaWt
set_option linter.unusedVariables false
namespace Go.Proofs.Ytkohnhkehedflaa
open Go.ChangeShapes Go.WideShapes Go.ChangeAt Go.RowKit Go.RR

set_option maxRecDepth 100000 in
theorem l5_lifted (os : Os) (started : os.Started) (H : Type) (enc : TypeId × Value → H) :
    ReturnsInHanded {} Try.checked os 5 .any (Rows.fnExactIdleDaysSpec.pre6 enc Try.prog Try.f5 Rows.fnExactIdleDaysRow.domain false) (Rows.fnExactIdleDaysSpec.post enc Try.prog Try.f5 false true false false) := by
  refine returnsInHanded_of_change (C := Try.checked) Try.own started (by kernel_rfl) Try.func5
    (ChangeSpec.witness6 (enc := enc) (C := Try.checked) false ⟨#[], #[.slice none 0 0, .int .i64 0, .slice none 0 0], []⟩ 8 (by kernel_rfl) (by kernel_rfl) (by kernel_rfl) (by kernel_rfl)) ?_
  intro W base args ds gs before hval0 hW hcnd _
  have hval : ∀ (j : Nat) t v, Try.f5.params[j]? = some t → args[j]? = some v → Value.okWide Try.prog W .any base t v := hval0
  have hW' := hW
  obtain ⟨p, q, hA0, hV, rfl, hfz, hnd⟩ := hW
  have hA : DataW.TrodAll enc Try.prog W 0 (fun _ => true) true Try.f5.params.toList args.toList ds p := hA0
  rw [Try.params5] at hA hval
  have hlen : ds.length = 3 := by simpa using trodLen hA
  have hlen : ∃ d1 d2 d3, ds = [d1, d2, d3] := by
    match ds, hlen with
    | [d1, d2, d3], _ => exact ⟨d1, d2, d3, rfl⟩
  obtain ⟨d1, d2, d3, rfl⟩ := hlen
  obtain ⟨rfl, rfl⟩ := trodVars_none hV
  obtain ⟨al, hsh, hargs⟩ := args_sh tab [42, 2, 50] args.toList _ p rfl (fun j t v h1 h2 => hval j t v (by simpa using h1) (by simpa using h2)) hA
  obtain ⟨v0, vs0, rfl, hv0, v1, vs1, rfl, hv1, v2, vs2, rfl, hv2, rfl⟩ := hsh
  obtain ⟨l0, rfl, hl0, he0⟩ := sh_jobs hv0
  obtain ⟨k1, rfl, hk1⟩ := sh_int (d := 7) (k := .i64) (s := 1) (b := 8) rfl hv1
  obtain ⟨l2, rfl, hl2, he2⟩ := sh_slots hv2
  have hcalls := f_wFnExactIdleDays_sound [.lst (.st [.i .i8, .i .u16]) l0, .v (.int .i64 k1), .lst (.st [.i .i8, .i .i16]) l2] true (law_IdleDays hl0 he0 hk1 hl2 he2) W args.toList trivial hargs
  have ha : args.toList.toArray = args := by simp
  rw [ha] at hcalls
  refine hcalls.mono fun e W' hpost => ?_
  obtain ⟨v, rfl, hres, hbel⟩ := hpost
  obtain ⟨_, hres, _⟩ := hres
  have hv : v = .bool true := (hres 0 _ _ rfl rfl).2
  subst hv
  exact ⟨_, rfl, law_post (tb := 4) Try.laidOut rfl hW' hbel (by kernel_rfl) (by kernel_rfl) Try.underlying4 rfl rfl rfl⟩

theorem l5_holds : Rows.FnExactIdleDaysSaid :=
  OpenClaim.holds_of_wide 5 Try.f5 rfl rfl rfl rfl rfl rfl rfl ⟨rfl, rfl, rfl, rfl, rfl⟩ rfl rfl rfl rfl rfl (by kernel_rfl) Try.func5 (by kernel_rfl)
    (of_decide_eq_true (by kernel_rfl)) (by unfold Func.isWrapper; first | (rw [if_pos (by decide +kernel)]; kernel_rfl) | (rw [if_neg (by decide +kernel)]; exact ⟨rfl, rfl⟩))
    (fun os started H enc _ => l5_lifted os started H enc)

end Go.Proofs.Ytkohnhkehedflaa
