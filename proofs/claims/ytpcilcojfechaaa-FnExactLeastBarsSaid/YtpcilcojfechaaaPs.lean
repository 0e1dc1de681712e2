/- What the rows of this seat share: arguments by their shapes. No condition; no theorem of the program. -/
import Derived.Test.YtpcilcojfechaaaTb
import Derived.Test.YtpcilcojfechaaaRq
import Derived.ChangeShapes
set_option linter.unusedVariables false
namespace Go.Proofs.Ytpcilcojfechaaa
open Go.ChangeShapes Go.WideShapes Go.ChangeAt Go.RowKit Go.RR

theorem Try.own : ownKnob Try.prog.godebug = none := by kernel_rfl
theorem Try.laidOut : laidOutB Try.prog = true := by kernel_rfl

theorem trodLen {H : Type} {enc : TypeId × Value → H} {P : Program} {w : World} {base : Nat} {spare : Nat → Bool} {held : Bool} : ∀ {ts : List TypeId} {vs : List Value} {ds : List (DataW H)} {ps : List MemPlace}, DataW.TrodAll enc P w base spare held ts vs ds ps → ds.length = ts.length
  | [], vs, ds, ps, h => by
    obtain ⟨_, rfl, _⟩ := trodAll_nil h
    rfl
  | t :: ts, vs, ds, ps, h => by
    obtain ⟨v, vs', d, ds', p, q, _, rfl, _, _, hr⟩ := trodAll_cons h
    rw [List.length_cons, List.length_cons, trodLen hr]
theorem wf_bounds {k : IntKind} {n : Int} (h : (Lit.int k n).wf = true) : k.min ≤ n ∧ n ≤ k.max := by
  simpa [Lit.wf] using h
theorem sh_int {d t : Nat} {k : IntKind} {s b : Nat} {a : A} (ht : lk TT t = some ⟨.int k, s, b⟩) (h : ShA TT (d + 1) t a) : ∃ n, a = .v (.int k n) ∧ (k.min ≤ n ∧ n ≤ k.max) := by
  simp only [ShA, ht] at h
  obtain ⟨n, h1, h2⟩ := h
  exact ⟨n, h2, wf_bounds h1⟩
theorem sh_arr {d t n e : Nat} {k : IntKind} {s b s' b' : Nat} {a : A} (ht : lk TT t = some ⟨.array n e, s, b⟩) (he : lk TT e = some ⟨.int k, s', b'⟩) (h : ShA TT (d + 1) t a) : ∃ f, a = .fa n k f ∧ ∀ j, j < n → k.min ≤ f j ∧ f j ≤ k.max := by
  simp only [ShA, ht, he] at h
  obtain ⟨f, h1, h2⟩ := h
  exact ⟨f, h2, fun j hj => wf_bounds (h1 j hj)⟩
theorem sh_struct {d t : Nat} {fs : List (Nat × Nat)} {s b : Nat} {a : A} (ht : lk TT t = some ⟨.struct fs, s, b⟩) (h : ShA TT (d + 1) t a) : ∃ al, a = .rc al ∧ ShL TT d fs al := by
  simp only [ShA, ht] at h
  exact h
theorem sh_cons {d o t : Nat} {r : List (Nat × Nat)} {al : List A} (h : ShL TT (d + 1) ((o, t) :: r) al) : ∃ x xs, al = x :: xs ∧ ShA TT d t x ∧ ShL TT d r xs := by
  simp only [ShL] at h
  exact h
theorem sh_slice {d t e : Nat} {s b : Nat} {et : ET} {a : A} (ht : lk TT t = some ⟨.slice e, s, b⟩) (he : etOf TT e = some et) (h : ShA TT (d + 1) t a) : ∃ l : List et.den, a = .lst et l ∧ l.length ≤ maxLen ∧ ∀ x ∈ l, ShA TT d e (et.toA x) := by
  simp only [ShA, ht, he] at h
  obtain ⟨l, h1, h2, rfl⟩ := h
  exact ⟨l, rfl, h1, h2⟩
theorem sh_ints {a : A} (h : ShA TT 8 28 a) : ∃ l : List Int, a = .lst (.one (.i .i64)) l ∧ l.length ≤ maxLen ∧ ∀ x ∈ l, IntKind.i64.min ≤ x ∧ x ≤ IntKind.i64.max := by
  obtain ⟨l, rfl, h1, h2⟩ := sh_slice (d := 7) (e := 2) (s := 1) (b := 24) (et := .one (.i .i64)) rfl rfl h
  refine ⟨l, rfl, h1, fun x hx => ?_⟩
  obtain ⟨n, e, hn⟩ := sh_int (d := 6) (k := .i64) (s := 1) (b := 8) rfl (h2 x hx)
  cases e; exact hn

end Go.Proofs.Ytpcilcojfechaaa
