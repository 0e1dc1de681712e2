/- The law FnExactPartnerOf answers true at every input, and its input reads as it did: the row FnExactPartnerOfSaid. No condition. -/
import Derived.Test.YtmbjjahfjbhbcaaRows
import Derived.Test.YtmbjjahfjbhbcaaPc
import Derived.Test.YtmbjjahfjbhbcaaRq
set_option linter.unusedVariables false
namespace Go.Proofs.Ytmbjjahfjbhbcaa
open Go.ChangeShapes Go.WideShapes Go.ChangeAt Go.RowKit Go.RR

theorem Try.own : ownKnob Try.prog.godebug = none := by kernel_rfl
theorem Try.laidOut : laidOutB Try.prog = true := by kernel_rfl

theorem wf_bounds {k : IntKind} {n : Int} (h : (Lit.int k n).wf = true) : k.min ≤ n ∧ n ≤ k.max := by
  simpa [Lit.wf] using h
theorem sh_int {d t : Nat} {k : IntKind} {s b : Nat} {a : A} (ht : lk TT t = some ⟨.int k, s, b⟩) (h : ShA TT (d + 1) t a) : ∃ n, a = .v (.int k n) ∧ (k.min ≤ n ∧ n ≤ k.max) := by
  simp only [ShA, ht] at h
  obtain ⟨n, h1, h2⟩ := h
  exact ⟨n, h2, wf_bounds h1⟩
theorem sh_arr {d t n e : Nat} {k : IntKind} {s b s' b' : Nat} {a : A} (ht : lk TT t = some ⟨.array n e, s, b⟩) (he : lk TT e = some ⟨.int k, s', b'⟩) (h : ShA TT (d + 1) t a) : ∃ f, a = .fa n k f ∧ ∀ j, j < n → k.min ≤ f j ∧ f j ≤ k.max := by
  simp only [ShA, ht, he] at h
  obtain ⟨f, h1, h2⟩ := h
  exact ⟨f, h2, fun j hj => wf_bounds (h1 j hj)⟩
theorem sh_struct {d t : Nat} {fs : List (Nat × Nat)} {s b : Nat} {a : A} (ht : lk TT t = some ⟨.struct fs, s, b⟩) (h : ShA TT (d + 1) t a) : ∃ al, a = .rc al ∧ ShL TT d fs al := by
  simp only [ShA, ht] at h
  exact h
theorem sh_cons {d o t : Nat} {r : List (Nat × Nat)} {al : List A} (h : ShL TT (d + 1) ((o, t) :: r) al) : ∃ x xs, al = x :: xs ∧ ShA TT d t x ∧ ShL TT d r xs := by
  simp only [ShL] at h
  exact h
theorem sh_pic {a : A} (h : ShA TT 8 25 a) : ∃ (w h : Int) (f : Nat → Int), a = .rc [.v (.int .i8 w), .v (.int .i8 h), .fa 144 .u8 f] ∧ (-128 ≤ w ∧ w ≤ 127) ∧ (-128 ≤ h ∧ h ≤ 127) ∧ ∀ j, j < 144 → 0 ≤ f j ∧ f j ≤ 255 := by
  obtain ⟨al, rfl, g⟩ := sh_struct (d := 7) (fs := [(0, 22), (1, 22), (2, 23)]) (s := 146) (b := 146) rfl h
  obtain ⟨x, xs, rfl, h1, g1⟩ := sh_cons g
  obtain ⟨y, ys, rfl, h2, g2⟩ := sh_cons g1
  obtain ⟨z, zs, rfl, h3, g3⟩ := sh_cons g2
  obtain rfl : zs = [] := by simpa only [ShL] using g3
  obtain ⟨w, rfl, hw⟩ := sh_int (d := 5) (k := .i8) (s := 1) (b := 1) rfl h1
  obtain ⟨v, rfl, hv⟩ := sh_int (d := 4) (k := .i8) (s := 1) (b := 1) rfl h2
  obtain ⟨f, rfl, hf⟩ := sh_arr (d := 3) (n := 144) (e := 5) (k := .u8) (s := 144) (b := 144) (s' := 1) (b' := 1) rfl rfl h3
  exact ⟨w, v, f, rfl, hw, hv, hf⟩

set_option maxRecDepth 100000 in
theorem partner_lifted (os : Os) (started : os.Started) (H : Type) (enc : TypeId × Value → H) :
    ReturnsInHanded {} Try.checked os 3 .any (Rows.fnExactPartnerOfSpec.pre6 enc Try.prog Try.f3 Rows.fnExactPartnerOfRow.domain false) (Rows.fnExactPartnerOfSpec.post enc Try.prog Try.f3 false true false false) := by
  refine returnsInHanded_of_change (C := Try.checked) Try.own started (by kernel_rfl) Try.func3
    (ChangeSpec.witness6 (enc := enc) (C := Try.checked) false ⟨#[], #[.agg (#[.int .i8 0, .int .i8 0] ++ Array.replicate 144 (.int .u8 0)), .int .i64 0, .int .i64 0], []⟩ 8 (by kernel_rfl) (by kernel_rfl) (by kernel_rfl) (by kernel_rfl)) ?_
  intro W base args ds gs before hval0 hW hcnd _
  have hval : ∀ (j : Nat) t v, Try.f3.params[j]? = some t → args[j]? = some v → Value.okWide Try.prog W .any base t v := hval0
  have hW' := hW
  obtain ⟨p, q, hA0, hV, rfl, hfz, hnd⟩ := hW
  have hA : DataW.TrodAll enc Try.prog W 0 (fun _ => true) true Try.f3.params.toList args.toList ds p := hA0
  rw [Try.params3] at hA hval
  have hlen : ∃ d1 d2 d3, ds = [d1, d2, d3] := by
    obtain ⟨_, _, _, d1, d2, d3, _, _, _, _, h, _⟩ := trodAll_three hA
    exact ⟨d1, d2, d3, h⟩
  obtain ⟨d1, d2, d3, rfl⟩ := hlen
  obtain ⟨rfl, rfl⟩ := trodVars_none hV
  obtain ⟨al, hsh, hargs⟩ := args_sh tab [25, 2, 2] args.toList _ p rfl (fun j t v h1 h2 => hval j t v (by simpa using h1) (by simpa using h2)) hA
  obtain ⟨a, as1, rfl, ha, b, as2, rfl, hb, c, as3, rfl, hc, rfl⟩ := hsh
  obtain ⟨pw, ph, pf, rfl, hw, hh, hf⟩ := sh_pic ha
  obtain ⟨k, rfl, hk⟩ := sh_int (d := 7) (k := .i64) (s := 1) (b := 8) rfl hb
  obtain ⟨n, rfl, hn⟩ := sh_int (d := 7) (k := .i64) (s := 1) (b := 8) rfl hc
  have hcalls := f3_sound [.rc [.v (.int .i8 pw), .v (.int .i8 ph), .fa 144 .u8 pf], .v (.int .i64 k), .v (.int .i64 n)] (s3 pw ph pf k n) rfl W args.toList hargs
  rw [law3 hw hh hn.2] at hcalls
  have ha : args.toList.toArray = args := by simp
  rw [ha] at hcalls
  refine hcalls.mono fun e W' hpost => ?_
  obtain ⟨v, rfl, hres, hbel⟩ := hpost
  obtain ⟨_, hres, _⟩ := hres
  have hv : v = .bool true := (hres 0 _ _ rfl rfl).2
  subst hv
  exact ⟨_, rfl, law_post (tb := 4) Try.laidOut rfl hW' hbel (by kernel_rfl) (by kernel_rfl) Try.underlying4 rfl rfl rfl⟩

theorem partner_holds : Rows.FnExactPartnerOfSaid :=
  OpenClaim.holds_of_wide 3 Try.f3 rfl rfl rfl rfl rfl rfl rfl ⟨rfl, rfl, rfl, rfl, rfl⟩ rfl rfl rfl rfl rfl (by kernel_rfl) Try.func3 (by kernel_rfl)
    (of_decide_eq_true (by kernel_rfl)) (by unfold Func.isWrapper; first | (rw [if_pos (by decide +kernel)]; kernel_rfl) | (rw [if_neg (by decide +kernel)]; exact ⟨rfl, rfl⟩))
    (fun os started H enc _ => partner_lifted os started H enc)

end Go.Proofs.Ytmbjjahfjbhbcaa
