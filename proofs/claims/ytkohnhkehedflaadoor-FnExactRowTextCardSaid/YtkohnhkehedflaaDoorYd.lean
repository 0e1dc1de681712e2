/- RowText: the reference's answer and the program's are the same, for all arguments, where the listed tables hold what the program's text lays (tied). No other condition. -/
import Derived.Test.YtkohnhkehedflaaDoorRows
import Derived.Test.YtkohnhkehedflaaDoorCards
import Derived.Test.YtkohnhkehedflaaDoorTie
import Derived.LaidMore
import Derived.Lay
import Derived.SevenTiedAt
import Derived.Test.YtkohnhkehedflaaDoorPs
import Derived.Test.YtkohnhkehedflaaDoorTk
import Derived.Test.YtkohnhkehedflaaDoorFd
set_option linter.unusedVariables false
namespace Go.Proofs.YtkohnhkehedflaaDoor
open Go.ChangeShapes Go.WideShapes Go.ChangeAt Go.RowKit Go.RR

def laid4 : List (String × DataW Unit) := Rows.fnExactRowTextRow.laid
theorem laid4_tabs {W : World} (h : laidMetH Tryd.prog laid4 W) : JJ Tryd.prog W := by
  rw [MakeChecks.laidMetH_plain _ _ _ (by kernel_rfl)] at h
  exact tabs_of (show Lib.VarReads Tryd.prog W "internal/strconv.uint64pow10" (Lib.tabData .u64 Lib.pow10Tab) from (show (Lib.tabData .u64 Lib.pow10Tab : DataW Unit) = Rows.laid_internal_strconv_uint64pow10 by kernel_rfl) ▸ Lib.laidMet.reads h (.tail _ (.tail _ (.head _))))
set_option maxRecDepth 100000 in
theorem l4_lifted (os : Os) (started : os.Started) (H : Type) (enc : TypeId × Value → H) :
    ReturnsInHanded {} Tryd.checked os 4 .any (fun w args => (Rows.fnExactRowTextSpec.pre enc Tryd.prog Tryd.f4 [] false w args ∧ laidMetH Tryd.prog laid4 w) ∧ sizedMet enc Tryd.prog Tryd.f4 (OpenSpec.ofChange Rows.fnExactRowTextSpec) false w args)
      (Rows.fnExactRowTextSpec.post enc Tryd.prog Tryd.f4 false true false false) := by
  refine returnsInHanded_of_change_and (C := Tryd.checked) (X := fun w _ => laidMetH Tryd.prog laid4 w) (fun _ _ _ hh h => h.of_heap hh) Tryd.own started (by kernel_rfl) Tryd.func4
    (ChangeSpec.witness_shaped (enc := enc) (C := Tryd.checked) (os := os) (X := fun w _ => laidMetH Tryd.prog laid4 w) false (World.laidAll Tryd.prog os laid4) #[.slice none 0 0] 8 (World.laidAll_os _ _ _)
      (World.shaped_of_ZipB (by kernel_rfl) (by kernel_rfl)) (by kernel_rfl) (by kernel_rfl) (by kernel_rfl)
      (by rw [MakeChecks.laidMetH_plain _ _ _ (by kernel_rfl)]; exact laidMet_laidAll _ (by kernel_rfl) (by kernel_rfl))) ?_
  intro W base args ds gs before hval0 hW _ _ hL _
  have hval : ∀ (j : Nat) t v, Tryd.f4.params[j]? = some t → args[j]? = some v → Value.okWide Tryd.prog W .any base t v := hval0
  have hW' := hW
  obtain ⟨p, q, hA0, hV, rfl, hfz, hnd⟩ := hW
  have hA : DataW.TrodAll enc Tryd.prog W 0 (fun _ => true) true Tryd.f4.params.toList args.toList ds p := hA0
  rw [Tryd.params4] at hA hval
  have hlen : ds.length = 1 := by simpa using trodLen hA
  have hlen : ∃ d1, ds = [d1] := by
    match ds, hlen with
    | [d1], _ => exact ⟨d1, rfl⟩
  obtain ⟨d1, rfl⟩ := hlen
  obtain ⟨rfl, rfl⟩ := trodVars_none hV
  obtain ⟨al, hsh, hargs⟩ := args_sh tab [28] args.toList _ p rfl (fun j t v h1 h2 => hval j t v (by simpa using h1) (by simpa using h2)) hA
  obtain ⟨v0, vs0, rfl, hv0, rfl⟩ := hsh
  obtain ⟨l0, rfl, hl0, he0⟩ := sh_row hv0
  have hcalls := f_wFnExactRowText_sound [.lst (.one (.i .i16)) l0] true (law_RowText hl0 he0) W args.toList (laid4_tabs hL) hargs
  have ha : args.toList.toArray = args := by simp
  rw [ha] at hcalls
  refine hcalls.mono fun e W' hpost => ?_
  obtain ⟨v, rfl, hres, hbel⟩ := hpost
  obtain ⟨_, hres, _⟩ := hres
  have hv : v = .bool true := (hres 0 _ _ rfl rfl).2
  subst hv
  exact ⟨_, rfl, law_post (tb := 4) Tryd.laidOut rfl hW' hbel (by kernel_rfl) (by kernel_rfl) Tryd.underlying4 rfl rfl rfl⟩

theorem l4_row : Rows.FnExactRowTextSaid :=
  OpenClaim.holds_of_wide 4 Tryd.f4 rfl rfl rfl rfl rfl rfl rfl ⟨rfl, rfl, rfl, rfl, rfl⟩ rfl rfl rfl rfl rfl (by kernel_rfl) Tryd.func4 (by kernel_rfl)
    (of_decide_eq_true (by kernel_rfl)) (by unfold Func.isWrapper; first | (rw [if_pos (by decide +kernel)]; kernel_rfl) | (rw [if_neg (by decide +kernel)]; exact ⟨rfl, rfl⟩))
    (fun os started H enc _ => l4_lifted os started H enc)
theorem l4_holds : Rows.FnExactRowTextCardSaid :=
  Claim7.holds_tied_plain_at .later [] [.data, .data, .data] true (true, "960d0d9ddd46ee53558ad627bdf27b703a2ef1cf1d21ecd7453a5d2ee2e361d2") false
    l4_row (fun _ h => by cases h) (by kernel_rfl) (fun _ h => by cases h) fnExactRowText_row_tie rfl ⟨rfl, rfl⟩ (by kernel_rfl) rfl
    (fun f fn hf hfn => by
      obtain rfl : f = 4 := Option.some.inj ((show Tryd.prog.funcNamed "loop.example/g01322/laws.FnExactRowText" = some 4 by kernel_rfl).symm.trans hf) |>.symm
      obtain rfl : fn = Tryd.f4 := (Option.some.inj (Tryd.func4.symm.trans hfn)).symm
      exact ⟨by kernel_rfl, fun j t ht => by
        rw [Tryd.params4] at ht
        have hm : t ∈ [28] := by simpa using Array.mem_of_getElem? ht
        have hall : ([28].all fun u => !Tryd.prog.wantsStandIn u) = true := by kernel_rfl
        exact (show Tryd.prog.wantsStandIn t = false by simpa using List.all_eq_true.1 hall t hm)⟩)
    (by kernel_rfl)

end Go.Proofs.YtkohnhkehedflaaDoor
