/- ReadJobs: the reference's answer and the program's are the same, for all arguments, where the listed tables hold what the program's text lays (tied). No other condition. -/
import Derived.Test.YtbmaolhjplapoaaDoorRows
import Derived.Test.YtbmaolhjplapoaaDoorCards
import Derived.Test.YtbmaolhjplapoaaDoorTie
import Derived.LaidMore
import Derived.Lay
import Derived.SevenTiedAt
import Derived.Test.YtbmaolhjplapoaaDoorPs
import Derived.Test.YtbmaolhjplapoaaDoorHs
import Derived.Test.YtbmaolhjplapoaaDoorWk
set_option linter.unusedVariables false
namespace Go.Proofs.YtbmaolhjplapoaaDoor
open Go.ChangeShapes Go.WideShapes Go.ChangeAt Go.RowKit Go.RR

def laid5 : List (String × DataW Unit) := Rows.fnExactReadJobsRow.laid
theorem laid5_jj {W : World} (h : laidMetH Tryd.prog laid5 W) (hsh : W.ShapedOpen Tryd.prog) : JJ Tryd.prog W := by
  rw [MakeChecks.laidMetH_plain _ _ _ (by kernel_rfl)] at h
  exact ⟨pow_of (show Lib.VarReads Tryd.prog W "internal/strconv.uint64pow10" (Lib.tabData .u64 Lib.pow10Tab) from (show (Lib.tabData .u64 Lib.pow10Tab : DataW Unit) = Rows.laid_internal_strconv_uint64pow10 by kernel_rfl) ▸ Lib.laidMet.reads h (.tail _ (.tail _ (.head _)))),
    err_of (g := 1) h.tail.tail.tail.tail.tail (by kernel_rfl) (by kernel_rfl), err_of (g := 2) h.tail.tail.tail.tail (by kernel_rfl) (by kernel_rfl), max_of hsh⟩
set_option maxRecDepth 100000 in
theorem l5_lifted (os : Os) (started : os.Started) (H : Type) (enc : TypeId × Value → H) :
    ReturnsInHanded {} Tryd.checked os 5 .any (fun w args => (Rows.fnExactReadJobsSpec.pre enc Tryd.prog Tryd.f5 [] false w args ∧ laidMetH Tryd.prog laid5 w) ∧ sizedMet enc Tryd.prog Tryd.f5 (OpenSpec.ofChange Rows.fnExactReadJobsSpec) false w args)
      (Rows.fnExactReadJobsSpec.post enc Tryd.prog Tryd.f5 false true false false) := by
  refine handed_both (C := Tryd.checked) (X := fun w _ => laidMetH Tryd.prog laid5 w) (fun _ _ _ hh h => h.of_heap hh) Tryd.own started (by kernel_rfl) Tryd.func5
    (ChangeSpec.witness_shaped (enc := enc) (C := Tryd.checked) (os := os) (X := fun w _ => laidMetH Tryd.prog laid5 w) false (World.laidAll Tryd.prog os laid5) #[.string ⟨#[]⟩] 8 (World.laidAll_os _ _ _)
      (World.shaped_of_ZipB (by kernel_rfl) (by kernel_rfl)) (by kernel_rfl) (by kernel_rfl) (by kernel_rfl)
      (by rw [MakeChecks.laidMetH_plain _ _ _ (by kernel_rfl)]; exact laidMet_laidAll _ (by kernel_rfl) (by kernel_rfl))) ?_
  intro W base args ds gs before hval0 hW hL hsh
  have hval : ∀ (j : Nat) t v, Tryd.f5.params[j]? = some t → args[j]? = some v → Value.okWide Tryd.prog W .any base t v := hval0
  have hW' := hW
  obtain ⟨p, q, hA0, hV, rfl, hfz, hnd⟩ := hW
  have hA : DataW.TrodAll enc Tryd.prog W 0 (fun _ => true) true Tryd.f5.params.toList args.toList ds p := hA0
  rw [Tryd.params5] at hA hval
  have hlen : ds.length = 1 := by simpa using trodLen hA
  have hlen : ∃ d1, ds = [d1] := by
    match ds, hlen with
    | [d1], _ => exact ⟨d1, rfl⟩
  obtain ⟨d1, rfl⟩ := hlen
  obtain ⟨rfl, rfl⟩ := trodVars_none hV
  obtain ⟨al, hsh, hargs⟩ := args_sh tab [9] args.toList _ p rfl (fun j t v h1 h2 => hval j t v (by simpa using h1) (by simpa using h2)) hA
  obtain ⟨v0, vs0, rfl, hv0, rfl⟩ := hsh
  obtain ⟨z0, rfl, hz0⟩ := sh_str hv0
  have hcalls := f_wFnExactReadJobs_sound [.v (.string z0)] true (law_ReadJobs hz0) W args.toList (laid5_jj hL hsh) hargs
  have ha : args.toList.toArray = args := by simp
  rw [ha] at hcalls
  refine hcalls.mono fun e W' hpost => ?_
  obtain ⟨v, rfl, hres, hbel⟩ := hpost
  obtain ⟨_, hres, _⟩ := hres
  have hv : v = .bool true := (hres 0 _ _ rfl rfl).2
  subst hv
  exact ⟨_, rfl, law_post (tb := 4) Tryd.laidOut rfl hW' hbel (by kernel_rfl) (by kernel_rfl) Tryd.underlying4 rfl rfl rfl⟩

theorem l5_row : Rows.FnExactReadJobsSaid :=
  OpenClaim.holds_of_wide 5 Tryd.f5 rfl rfl rfl rfl rfl rfl rfl ⟨rfl, rfl, rfl, rfl, rfl⟩ rfl rfl rfl rfl rfl (by kernel_rfl) Tryd.func5 (by kernel_rfl)
    (of_decide_eq_true (by kernel_rfl)) (by unfold Func.isWrapper; first | (rw [if_pos (by decide +kernel)]; kernel_rfl) | (rw [if_neg (by decide +kernel)]; exact ⟨rfl, rfl⟩))
    (fun os started H enc _ => l5_lifted os started H enc)
theorem l5_holds : Rows.FnExactReadJobsCardSaid :=
  Claim7.holds_tied_plain_at .later [] [.data, .data, .data, .data, .sentinel, .sentinel, .pinned] true (true, "bfe913b7bf22a7ab07569f849fa611c0c0954f611ffb94c6fcddc1acc1631f6d") true
    l5_row (fun _ h => by cases h) (by kernel_rfl) (fun _ h => by cases h) fnExactReadJobs_row_tie rfl ⟨rfl, rfl⟩ (by kernel_rfl) rfl
    (fun f fn hf hfn => by
      obtain rfl : f = 5 := Option.some.inj ((show Tryd.prog.funcNamed "loop.example/g01322/laws.FnExactReadJobs" = some 5 by kernel_rfl).symm.trans hf) |>.symm
      obtain rfl : fn = Tryd.f5 := (Option.some.inj (Tryd.func5.symm.trans hfn)).symm
      exact ⟨by kernel_rfl, fun j t ht => by
        rw [Tryd.params5] at ht
        have hm : t ∈ [9] := by simpa using Array.mem_of_getElem? ht
        have hall : ([9].all fun u => !Tryd.prog.wantsStandIn u) = true := by kernel_rfl
        exact (show Tryd.prog.wantsStandIn t = false by simpa using List.all_eq_true.1 hall t hm)⟩)
    (by kernel_rfl)

end Go.Proofs.YtbmaolhjplapoaaDoor
