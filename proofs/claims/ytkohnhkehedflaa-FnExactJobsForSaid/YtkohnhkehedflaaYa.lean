/- JobsFor: the reference's answer and the program's are the same, for all arguments. No condition. -/
import Derived.Test.YtkohnhkehedflaaRows
import Derived.Test.YtkohnhkehedflaaPs
import Derived.Test.YtkohnhkehedflaaGe
set_option linter.unusedVariables false
namespace Go.Proofs.Ytkohnhkehedflaa
open Go.ChangeShapes Go.WideShapes Go.ChangeAt Go.RowKit Go.RR

set_option maxRecDepth 100000 in
theorem l9_lifted (os : Os) (started : os.Started) (H : Type) (enc : TypeId × Value → H) :
    ReturnsInHanded {} Try.checked os 9 .any (Rows.fnExactJobsForSpec.pre6 enc Try.prog Try.f9 Rows.fnExactJobsForRow.domain false) (Rows.fnExactJobsForSpec.post enc Try.prog Try.f9 false true false false) := by
  refine returnsInHanded_of_change (C := Try.checked) Try.own started (by kernel_rfl) Try.func9
    (ChangeSpec.witness6 (enc := enc) (C := Try.checked) false ⟨#[], #[.agg (#[.int .i8 0, .int .i8 0] ++ Array.replicate 144 (.int .u8 0)), .int .i64 0], []⟩ 8 (by kernel_rfl) (by kernel_rfl) (by kernel_rfl) (by kernel_rfl)) ?_
  intro W base args ds gs before hval0 hW hcnd _
  have hval : ∀ (j : Nat) t v, Try.f9.params[j]? = some t → args[j]? = some v → Value.okWide Try.prog W .any base t v := hval0
  have hW' := hW
  obtain ⟨p, q, hA0, hV, rfl, hfz, hnd⟩ := hW
  have hA : DataW.TrodAll enc Try.prog W 0 (fun _ => true) true Try.f9.params.toList args.toList ds p := hA0
  rw [Try.params9] at hA hval
  have hlen : ds.length = 2 := by simpa using trodLen hA
  have hlen : ∃ d1 d2, ds = [d1, d2] := by
    match ds, hlen with
    | [d1, d2], _ => exact ⟨d1, d2, rfl⟩
  obtain ⟨d1, d2, rfl⟩ := hlen
  obtain ⟨rfl, rfl⟩ := trodVars_none hV
  obtain ⟨al, hsh, hargs⟩ := args_sh tab [84, 2] args.toList _ p rfl (fun j t v h1 h2 => hval j t v (by simpa using h1) (by simpa using h2)) hA
  obtain ⟨v0, vs0, rfl, hv0, v1, vs1, rfl, hv1, rfl⟩ := hsh
  obtain ⟨w0, h0, f0, rfl, hw0, hh0, hf0⟩ := sh_pic hv0
  obtain ⟨k1, rfl, hk1⟩ := sh_int (d := 7) (k := .i64) (s := 1) (b := 8) rfl hv1
  have hcalls := f_wFnExactJobsFor_sound [.rc [.v (.int .i8 w0), .v (.int .i8 h0), .fa 144 .u8 f0], .v (.int .i64 k1)] true (law_JobsFor hw0 hh0) W args.toList trivial hargs
  have ha : args.toList.toArray = args := by simp
  rw [ha] at hcalls
  refine hcalls.mono fun e W' hpost => ?_
  obtain ⟨v, rfl, hres, hbel⟩ := hpost
  obtain ⟨_, hres, _⟩ := hres
  have hv : v = .bool true := (hres 0 _ _ rfl rfl).2
  subst hv
  exact ⟨_, rfl, law_post (tb := 4) Try.laidOut rfl hW' hbel (by kernel_rfl) (by kernel_rfl) Try.underlying4 rfl rfl rfl⟩

theorem l9_holds : Rows.FnExactJobsForSaid :=
  OpenClaim.holds_of_wide 9 Try.f9 rfl rfl rfl rfl rfl rfl rfl ⟨rfl, rfl, rfl, rfl, rfl⟩ rfl rfl rfl rfl rfl (by kernel_rfl) Try.func9 (by kernel_rfl)
    (of_decide_eq_true (by kernel_rfl)) (by unfold Func.isWrapper; first | (rw [if_pos (by decide +kernel)]; kernel_rfl) | (rw [if_neg (by decide +kernel)]; exact ⟨rfl, rfl⟩))
    (fun os started H enc _ => l9_lifted os started H enc)

end Go.Proofs.Ytkohnhkehedflaa
