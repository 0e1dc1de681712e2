/- Jobs: the reference's answer and the program's are the same, for all arguments, where the listed tables hold what the program's text lays (tied). No other condition. -/
import Derived.Test.YtbmaolhjplapoaaGreatDoorRows
import Derived.Test.YtbmaolhjplapoaaGreatDoorCards
import Derived.Test.YtbmaolhjplapoaaGreatDoorTie
import Derived.LaidMore
import Derived.Lay
import Derived.SevenTiedAt
import Derived.Test.YtbmaolhjplapoaaGreatDoorPs
import Derived.Test.YtbmaolhjplapoaaGreatDoorHs
import Derived.Test.YtbmaolhjplapoaaGreatDoorJh
set_option linter.unusedVariables false
namespace Go.Proofs.YtbmaolhjplapoaaGreatDoor
open Go.ChangeShapes Go.WideShapes Go.ChangeAt Go.RowKit Go.RR
def laid5 : List (String × DataW Unit) := Rows.fnJobsRow.laid
theorem laid5_jj {W : World} (h : laidMetH Tryz.prog laid5 W) (hsh : W.ShapedOpen Tryz.prog) : JJ Tryz.prog W := by
 rw [MakeChecks.laidMetH_plain _ _ _ (by kernel_rfl)] at h
 exact ⟨pow_of (show Lib.VarReads Tryz.prog W "internal/strconv.uint64pow10" (Lib.tabData .u64 Lib.pow10Tab) from (show (Lib.tabData .u64 Lib.pow10Tab : DataW Unit) = Rows.laid_internal_strconv_uint64pow10 by kernel_rfl) ▸ Lib.laidMet.reads h (.tail _ (.tail _ (.head _)))),
  err_of (g := 1) h.tail.tail.tail.tail.tail (by kernel_rfl) (by kernel_rfl), err_of (g := 2) h.tail.tail.tail.tail (by kernel_rfl) (by kernel_rfl), max_of hsh⟩
set_option maxRecDepth 100000 in
theorem l5_lifted (os : Os) (started : os.Started) (H : Type) (enc : TypeId × Value → H) :
  ReturnsInHanded {} Tryz.checked os 5 .any (fun w args => (Rows.fnJobsSpec.pre enc Tryz.prog Tryz.f5 [] false w args ∧ laidMetH Tryz.prog laid5 w) ∧ sizedMet enc Tryz.prog Tryz.f5 (OpenSpec.ofChange Rows.fnJobsSpec) false w args)
   (Rows.fnJobsSpec.post enc Tryz.prog Tryz.f5 false true false false) := by
 refine handed_both (C := Tryz.checked) (X := fun w _ => laidMetH Tryz.prog laid5 w) (fun _ _ _ hh h => h.of_heap hh) Tryz.own started (by kernel_rfl) Tryz.func5
  (ChangeSpec.witness_shaped (enc := enc) (C := Tryz.checked) (os := os) (X := fun w _ => laidMetH Tryz.prog laid5 w) false (World.laidAll Tryz.prog os laid5) #[.slice none 0 0, .slice none 0 0] 8 (World.laidAll_os _ _ _)
   (World.shaped_of_ZipB (by kernel_rfl) (by kernel_rfl)) (by kernel_rfl) (by kernel_rfl) (by kernel_rfl)
   (by rw [MakeChecks.laidMetH_plain _ _ _ (by kernel_rfl)]; exact laidMet_laidAll _ (by kernel_rfl) (by kernel_rfl))) ?_
 intro W base args ds gs before hval0 hW hL hsh
 have hval : ∀ (j : Nat) t v, Tryz.f5.params[j]? = some t → args[j]? = some v → Value.okWide Tryz.prog W .any base t v := hval0
 have hW' := hW
 obtain ⟨p, q, hA0, hV, rfl, hfz, hnd⟩ := hW
 have hA : DataW.TrodAll enc Tryz.prog W 0 (fun _ => true) true Tryz.f5.params.toList args.toList ds p := hA0
 rw [Tryz.params5] at hA hval
 have hlen : ds.length = 2 := by simpa using trodLen hA
 have hlen : ∃ d1 d2, ds = [d1, d2] := by
  match ds, hlen with
  | [d1, d2], _ => exact ⟨d1, d2, rfl⟩
 obtain ⟨d1, d2, rfl⟩ := hlen
 obtain ⟨rfl, rfl⟩ := trodVars_none hV
 obtain ⟨al, hsh, hargs⟩ := args_sh tab [22, 22] args.toList _ p rfl (fun j t v h1 h2 => hval j t v (by simpa using h1) (by simpa using h2)) hA
 obtain ⟨v0, vs0, rfl, hv0, v1, vs1, rfl, hv1, rfl⟩ := hsh
 obtain ⟨l0, rfl, hl0, he0⟩ := sh_bytes hv0
 obtain ⟨l1, rfl, hl1, he1⟩ := sh_bytes hv1
 have hcalls := f_q23_sound [.lst (.one (.i .u8)) l0, .lst (.one (.i .u8)) l1] true (law_Jobs hl0 he0 hl1 he1) W args.toList (laid5_jj hL hsh) hargs
 have ha : args.toList.toArray = args := by simp
 rw [ha] at hcalls
 refine hcalls.mono fun e W' hpost => ?_
 obtain ⟨v, rfl, hres, hbel⟩ := hpost
 obtain ⟨_, hres, _⟩ := hres
 have hv : v = .bool true := (hres 0 _ _ rfl rfl).2
 subst hv
 exact ⟨_, rfl, law_post (tb := 4) Tryz.laidOut rfl hW' hbel (by kernel_rfl) (by kernel_rfl) Tryz.underlying4 rfl rfl rfl⟩
theorem l5_row : Rows.FnJobsSaid :=
 OpenClaim.holds_of_wide 5 Tryz.f5 rfl rfl rfl rfl rfl rfl rfl ⟨rfl, rfl, rfl, rfl, rfl⟩ rfl rfl rfl rfl rfl (by kernel_rfl) Tryz.func5 (by kernel_rfl)
  (of_decide_eq_true (by kernel_rfl)) (by unfold Func.isWrapper; first | (rw [if_pos (by decide +kernel)]; kernel_rfl) | (rw [if_neg (by decide +kernel)]; exact ⟨rfl, rfl⟩))
  (fun os started H enc _ => l5_lifted os started H enc)
theorem l5_holds : Rows.FnJobsCardSaid :=
 Claim7.holds_tied_plain_at .later [] [.data, .data, .data, .data, .sentinel, .sentinel, .pinned] true (true, "bbdd30111d84c23268062ed2a3bdd16ca15ec774035b6582cf7cf421d0d8870a") true
  l5_row (fun _ h => by cases h) (by kernel_rfl) (fun _ h => by cases h) fnJobs_row_tie rfl ⟨rfl, rfl⟩ (by kernel_rfl) rfl
  (fun f fn hf hfn => by
   obtain rfl : f = 5 := Option.some.inj ((show Tryz.prog.funcNamed "loop.example/g01322/laws.FnJobs" = some 5 by kernel_rfl).symm.trans hf) |>.symm
   obtain rfl : fn = Tryz.f5 := (Option.some.inj (Tryz.func5.symm.trans hfn)).symm
   exact ⟨by kernel_rfl, fun j t ht => by
    rw [Tryz.params5] at ht
    have hm : t ∈ [22, 22] := by simpa using Array.mem_of_getElem? ht
    have hall : ([22, 22].all fun u => !Tryz.prog.wantsStandIn u) = true := by kernel_rfl
    exact (show Tryz.prog.wantsStandIn t = false by simpa using List.all_eq_true.1 hall t hm)⟩)
  (by kernel_rfl)
end Go.Proofs.YtbmaolhjplapoaaGreatDoor
