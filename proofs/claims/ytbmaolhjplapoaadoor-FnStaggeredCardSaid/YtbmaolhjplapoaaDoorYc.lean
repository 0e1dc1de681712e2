/- Staggered: the reference's answer and the program's are the same, for all arguments, where the listed tables hold what the program's text lays (tied). No other condition. -/
import Derived.Test.YtbmaolhjplapoaaDoorRows
import Derived.Test.YtbmaolhjplapoaaDoorCards
import Derived.Test.YtbmaolhjplapoaaDoorTie
import Derived.LaidMore
import Derived.Lay
import Derived.SevenTiedAt
import Derived.Test.YtbmaolhjplapoaaDoorPs
import Derived.Test.YtbmaolhjplapoaaDoorWi
set_option linter.unusedVariables false
namespace Go.Proofs.YtbmaolhjplapoaaDoor
open Go.ChangeShapes Go.WideShapes Go.ChangeAt Go.RowKit Go.RR

def laid4 : List (String × DataW Unit) := Rows.fnStaggeredRow.laid
set_option maxRecDepth 100000 in
theorem l4_lifted (os : Os) (started : os.Started) (H : Type) (enc : TypeId × Value → H) :
    ReturnsInHanded {} Tryd.checked os 4 .any (fun w args => (Rows.fnStaggeredSpec.pre enc Tryd.prog Tryd.f4 [] false w args ∧ laidMetH Tryd.prog laid4 w) ∧ sizedMet enc Tryd.prog Tryd.f4 (OpenSpec.ofChange Rows.fnStaggeredSpec) false w args)
      (Rows.fnStaggeredSpec.post enc Tryd.prog Tryd.f4 false true false false) := by
  refine returnsInHanded_of_change_and (C := Tryd.checked) (X := fun w _ => laidMetH Tryd.prog laid4 w) (fun _ _ _ hh h => h.of_heap hh) Tryd.own started (by kernel_rfl) Tryd.func4
    (ChangeSpec.witness_shaped (enc := enc) (C := Tryd.checked) (os := os) (X := fun w _ => laidMetH Tryd.prog laid4 w) false (World.laidAll Tryd.prog os laid4) #[.slice none 0 0, .slice none 0 0] 8 (World.laidAll_os _ _ _)
      (World.shaped_of_ZipB (by kernel_rfl) (by kernel_rfl)) (by kernel_rfl) (by kernel_rfl) (by kernel_rfl)
      (by rw [MakeChecks.laidMetH_plain _ _ _ (by kernel_rfl)]; exact laidMet_laidAll _ (by kernel_rfl) (by kernel_rfl))) ?_
  intro W base args ds gs before hval0 hW _ _ hL _
  have hval : ∀ (j : Nat) t v, Tryd.f4.params[j]? = some t → args[j]? = some v → Value.okWide Tryd.prog W .any base t v := hval0
  have hW' := hW
  obtain ⟨p, q, hA0, hV, rfl, hfz, hnd⟩ := hW
  have hA : DataW.TrodAll enc Tryd.prog W 0 (fun _ => true) true Tryd.f4.params.toList args.toList ds p := hA0
  rw [Tryd.params4] at hA hval
  have hlen : ds.length = 2 := by simpa using trodLen hA
  have hlen : ∃ d1 d2, ds = [d1, d2] := by
    match ds, hlen with
    | [d1, d2], _ => exact ⟨d1, d2, rfl⟩
  obtain ⟨d1, d2, rfl⟩ := hlen
  obtain ⟨rfl, rfl⟩ := trodVars_none hV
  obtain ⟨al, hsh, hargs⟩ := args_sh tab [29, 29] args.toList _ p rfl (fun j t v h1 h2 => hval j t v (by simpa using h1) (by simpa using h2)) hA
  obtain ⟨v0, vs0, rfl, hv0, v1, vs1, rfl, hv1, rfl⟩ := hsh
  obtain ⟨l0, rfl, hl0, he0⟩ := sh_bytes hv0
  obtain ⟨l1, rfl, hl1, he1⟩ := sh_bytes hv1
  have hcalls := f_wFnStaggered_sound [.lst (.one (.i .u8)) l0, .lst (.one (.i .u8)) l1] true (law_Staggered hl0 he0 hl1 he1) W args.toList trivial hargs
  have ha : args.toList.toArray = args := by simp
  rw [ha] at hcalls
  refine hcalls.mono fun e W' hpost => ?_
  obtain ⟨v, rfl, hres, hbel⟩ := hpost
  obtain ⟨_, hres, _⟩ := hres
  have hv : v = .bool true := (hres 0 _ _ rfl rfl).2
  subst hv
  exact ⟨_, rfl, law_post (tb := 4) Tryd.laidOut rfl hW' hbel (by kernel_rfl) (by kernel_rfl) Tryd.underlying4 rfl rfl rfl⟩

theorem l4_row : Rows.FnStaggeredSaid :=
  OpenClaim.holds_of_wide 4 Tryd.f4 rfl rfl rfl rfl rfl rfl rfl ⟨rfl, rfl, rfl, rfl, rfl⟩ rfl rfl rfl rfl rfl (by kernel_rfl) Tryd.func4 (by kernel_rfl)
    (of_decide_eq_true (by kernel_rfl)) (by unfold Func.isWrapper; first | (rw [if_pos (by decide +kernel)]; kernel_rfl) | (rw [if_neg (by decide +kernel)]; exact ⟨rfl, rfl⟩))
    (fun os started H enc _ => l4_lifted os started H enc)
theorem l4_holds : Rows.FnStaggeredCardSaid :=
  Claim7.holds_tied_plain_at .later [] [.data, .pinned] true (true, "bfe913b7bf22a7ab07569f849fa611c0c0954f611ffb94c6fcddc1acc1631f6d") true
    l4_row (fun _ h => by cases h) (by kernel_rfl) (fun _ h => by cases h) fnStaggered_row_tie rfl ⟨rfl, rfl⟩ (by kernel_rfl) rfl
    (fun f fn hf hfn => by
      obtain rfl : f = 4 := Option.some.inj ((show Tryd.prog.funcNamed "loop.example/g01322/laws.FnStaggered" = some 4 by kernel_rfl).symm.trans hf) |>.symm
      obtain rfl : fn = Tryd.f4 := (Option.some.inj (Tryd.func4.symm.trans hfn)).symm
      exact ⟨by kernel_rfl, fun j t ht => by
        rw [Tryd.params4] at ht
        have hm : t ∈ [29, 29] := by simpa using Array.mem_of_getElem? ht
        have hall : ([29, 29].all fun u => !Tryd.prog.wantsStandIn u) = true := by kernel_rfl
        exact (show Tryd.prog.wantsStandIn t = false by simpa using List.all_eq_true.1 hall t hm)⟩)
    (by kernel_rfl)

end Go.Proofs.YtbmaolhjplapoaaDoor
