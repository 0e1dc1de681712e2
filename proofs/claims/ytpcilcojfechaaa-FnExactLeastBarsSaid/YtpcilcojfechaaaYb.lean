/- LeastBars: the reference's answer and the program's are the same, for all arguments. No condition. -/
import Derived.Test.YtpcilcojfechaaaRows
import Derived.Test.YtpcilcojfechaaaPs
import Derived.Test.YtpcilcojfechaaaLr
set_option linter.unusedVariables false
namespace Go.Proofs.Ytpcilcojfechaaa
open Go.ChangeShapes Go.WideShapes Go.ChangeAt Go.RowKit Go.RR

set_option maxRecDepth 100000 in
theorem l4_lifted (os : Os) (started : os.Started) (H : Type) (enc : TypeId × Value → H) :
    ReturnsInHanded {} Try.checked os 4 .any (Rows.fnExactLeastBarsSpec.pre6 enc Try.prog Try.f4 Rows.fnExactLeastBarsRow.domain false) (Rows.fnExactLeastBarsSpec.post enc Try.prog Try.f4 false true false false) := by
  refine returnsInHanded_of_change (C := Try.checked) Try.own started (by kernel_rfl) Try.func4
    (ChangeSpec.witness6 (enc := enc) (C := Try.checked) false ⟨#[], #[.int .i64 0, .int .i64 0, .slice none 0 0, .int .i64 0], []⟩ 8 (by kernel_rfl) (by kernel_rfl) (by kernel_rfl) (by kernel_rfl)) ?_
  intro W base args ds gs before hval0 hW hcnd _
  have hval : ∀ (j : Nat) t v, Try.f4.params[j]? = some t → args[j]? = some v → Value.okWide Try.prog W .any base t v := hval0
  have hW' := hW
  obtain ⟨p, q, hA0, hV, rfl, hfz, hnd⟩ := hW
  have hA : DataW.TrodAll enc Try.prog W 0 (fun _ => true) true Try.f4.params.toList args.toList ds p := hA0
  rw [Try.params4] at hA hval
  have hlen : ds.length = 4 := by simpa using trodLen hA
  have hlen : ∃ d1 d2 d3 d4, ds = [d1, d2, d3, d4] := by
    match ds, hlen with
    | [d1, d2, d3, d4], _ => exact ⟨d1, d2, d3, d4, rfl⟩
  obtain ⟨d1, d2, d3, d4, rfl⟩ := hlen
  obtain ⟨rfl, rfl⟩ := trodVars_none hV
  obtain ⟨al, hsh, hargs⟩ := args_sh tab [2, 2, 28, 2] args.toList _ p rfl (fun j t v h1 h2 => hval j t v (by simpa using h1) (by simpa using h2)) hA
  obtain ⟨v0, vs0, rfl, hv0, v1, vs1, rfl, hv1, v2, vs2, rfl, hv2, v3, vs3, rfl, hv3, rfl⟩ := hsh
  obtain ⟨k0, rfl, hk0⟩ := sh_int (d := 7) (k := .i64) (s := 1) (b := 8) rfl hv0
  obtain ⟨k1, rfl, hk1⟩ := sh_int (d := 7) (k := .i64) (s := 1) (b := 8) rfl hv1
  obtain ⟨l2, rfl, hl2, he2⟩ := sh_ints hv2
  obtain ⟨k3, rfl, hk3⟩ := sh_int (d := 7) (k := .i64) (s := 1) (b := 8) rfl hv3
  have hcalls := f_wFnExactLeastBars_sound [.v (.int .i64 k0), .v (.int .i64 k1), .lst (.one (.i .i64)) l2, .v (.int .i64 k3)] true (law_LeastBars hk0 hk1 hl2 he2 hk3) W args.toList trivial hargs
  have ha : args.toList.toArray = args := by simp
  rw [ha] at hcalls
  refine hcalls.mono fun e W' hpost => ?_
  obtain ⟨v, rfl, hres, hbel⟩ := hpost
  obtain ⟨_, hres, _⟩ := hres
  have hv : v = .bool true := (hres 0 _ _ rfl rfl).2
  subst hv
  exact ⟨_, rfl, law_post (tb := 4) Try.laidOut rfl hW' hbel (by kernel_rfl) (by kernel_rfl) Try.underlying4 rfl rfl rfl⟩

theorem l4_holds : Rows.FnExactLeastBarsSaid :=
  OpenClaim.holds_of_wide 4 Try.f4 rfl rfl rfl rfl rfl rfl rfl ⟨rfl, rfl, rfl, rfl, rfl⟩ rfl rfl rfl rfl rfl (by kernel_rfl) Try.func4 (by kernel_rfl)
    (of_decide_eq_true (by kernel_rfl)) (by unfold Func.isWrapper; first | (rw [if_pos (by decide +kernel)]; kernel_rfl) | (rw [if_neg (by decide +kernel)]; exact ⟨rfl, rfl⟩))
    (fun os started H enc _ => l4_lifted os started H enc)

end Go.Proofs.Ytpcilcojfechaaa
