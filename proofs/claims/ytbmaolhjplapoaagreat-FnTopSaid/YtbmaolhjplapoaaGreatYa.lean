/- FnTop: the law returns true for all arguments (fields have one colour and are whole; each cell has the nearest tone; rows are as long as told; no plan of work is shorter than the best one). No condition. -/
import Derived.Test.YtbmaolhjplapoaaGreatRows
import Derived.Test.YtbmaolhjplapoaaGreatPs
import Derived.Test.YtbmaolhjplapoaaGreatTe
set_option linter.unusedVariables false
namespace Go.Proofs.YtbmaolhjplapoaaGreat
open Go.ChangeShapes Go.WideShapes Go.ChangeAt Go.RowKit Go.RR
set_option maxRecDepth 100000 in
theorem l3_lifted (os : Os) (started : os.Started) (H : Type) (enc : TypeId × Value → H) :
  ReturnsInHanded {} Tryz.checked os 3 .any (Rows.fnTopSpec.pre6 enc Tryz.prog Tryz.f3 Rows.fnTopRow.domain false) (Rows.fnTopSpec.post enc Tryz.prog Tryz.f3 false true false false) := by
 refine returnsInHanded_of_change (C := Tryz.checked) Tryz.own started (by kernel_rfl) Tryz.func3
  (ChangeSpec.witness6 (enc := enc) (C := Tryz.checked) false ⟨#[], #[.slice none 0 0, .slice none 0 0], []⟩ 8 (by kernel_rfl) (by kernel_rfl) (by kernel_rfl) (by kernel_rfl)) ?_
 intro W base args ds gs before hval0 hW hcnd _
 have hval : ∀ (j : Nat) t v, Tryz.f3.params[j]? = some t → args[j]? = some v → Value.okWide Tryz.prog W .any base t v := hval0
 have hW' := hW
 obtain ⟨p, q, hA0, hV, rfl, hfz, hnd⟩ := hW
 have hA : DataW.TrodAll enc Tryz.prog W 0 (fun _ => true) true Tryz.f3.params.toList args.toList ds p := hA0
 rw [Tryz.params3] at hA hval
 have hlen : ds.length = 2 := by simpa using zBJ hA
 have hlen : ∃ d1 d2, ds = [d1, d2] := by
  match ds, hlen with
  | [d1, d2], _ => exact ⟨d1, d2, rfl⟩
 obtain ⟨d1, d2, rfl⟩ := hlen
 obtain ⟨rfl, rfl⟩ := trodVars_none hV
 obtain ⟨al, hsh, hargs⟩ := zE5 tab [22, 22] args.toList _ p rfl (fun j t v h1 h2 => hval j t v (by simpa using h1) (by simpa using h2)) hA
 obtain ⟨v0, vs0, rfl, hv0, v1, vs1, rfl, hv1, rfl⟩ := hsh
 obtain ⟨l0, rfl, hl0, he0⟩ := zuu hv0
 obtain ⟨l1, rfl, hl1, he1⟩ := zuu hv1
 have hcalls := zvw [.lst (.one (.i .u8)) l0, .lst (.one (.i .u8)) l1] true (zTm hl0 he0 hl1 he1) W args.toList trivial hargs
 have ha : args.toList.toArray = args := by simp
 rw [ha] at hcalls
 refine hcalls.mono fun e W' hpost => ?_
 obtain ⟨v, rfl, hres, hbel⟩ := hpost
 obtain ⟨_, hres, _⟩ := hres
 have hv : v = .bool true := (hres 0 _ _ rfl rfl).2
 subst hv
 exact ⟨_, rfl, zOa (tb := 4) Tryz.laidOut rfl hW' hbel (by kernel_rfl) (by kernel_rfl) Tryz.underlying4 rfl rfl rfl⟩
theorem l3_holds : Rows.FnTopSaid :=
 OpenClaim.holds_of_wide 3 Tryz.f3 rfl rfl rfl rfl rfl rfl rfl ⟨rfl, rfl, rfl, rfl, rfl⟩ rfl rfl rfl rfl rfl (by kernel_rfl) Tryz.func3 (by kernel_rfl)
  (of_decide_eq_true (by kernel_rfl)) (by unfold Func.isWrapper; first | (rw [if_pos (by decide +kernel)]; kernel_rfl) | (rw [if_neg (by decide +kernel)]; exact ⟨rfl, rfl⟩))
  (fun os started H enc _ => l3_lifted os started H enc)
end Go.Proofs.YtbmaolhjplapoaaGreat
