/- What the rows of this seat share: arguments by their shapes. No condition; no theorem of the program. -/
import Derived.Test.YtkohnhkehedflaaDoorTb
import Derived.Test.YtkohnhkehedflaaDoorRq
import Derived.ChangeShapes
set_option linter.unusedVariables false
namespace Go.Proofs.YtkohnhkehedflaaDoor
open Go.ChangeShapes Go.WideShapes Go.ChangeAt Go.RowKit Go.RR

theorem Tryd.own : ownKnob Tryd.prog.godebug = none := by kernel_rfl
theorem Tryd.laidOut : laidOutB Tryd.prog = true := by kernel_rfl

theorem trodLen {H : Type} {enc : TypeId × Value → H} {P : Program} {w : World} {base : Nat} {spare : Nat → Bool} {held : Bool} : ∀ {ts : List TypeId} {vs : List Value} {ds : List (DataW H)} {ps : List MemPlace}, DataW.TrodAll enc P w base spare held ts vs ds ps → ds.length = ts.length
  | [], vs, ds, ps, h => by
    obtain ⟨_, rfl, _⟩ := trodAll_nil h
    rfl
  | t :: ts, vs, ds, ps, h => by
    obtain ⟨v, vs', d, ds', p, q, _, rfl, _, _, hr⟩ := trodAll_cons h
    rw [List.length_cons, List.length_cons, trodLen hr]
theorem wf_bounds {k : IntKind} {n : Int} (h : (Lit.int k n).wf = true) : k.min ≤ n ∧ n ≤ k.max := by
  simpa [Lit.wf] using h
theorem sh_int {d t : Nat} {k : IntKind} {s b : Nat} {a : A} (ht : lk TT t = some ⟨.int k, s, b⟩) (h : ShA TT (d + 1) t a) : ∃ n, a = .v (.int k n) ∧ (k.min ≤ n ∧ n ≤ k.max) := by
  simp only [ShA, ht] at h
  obtain ⟨n, h1, h2⟩ := h
  exact ⟨n, h2, wf_bounds h1⟩
theorem sh_arr {d t n e : Nat} {k : IntKind} {s b s' b' : Nat} {a : A} (ht : lk TT t = some ⟨.array n e, s, b⟩) (he : lk TT e = some ⟨.int k, s', b'⟩) (h : ShA TT (d + 1) t a) : ∃ f, a = .fa n k f ∧ ∀ j, j < n → k.min ≤ f j ∧ f j ≤ k.max := by
  simp only [ShA, ht, he] at h
  obtain ⟨f, h1, h2⟩ := h
  exact ⟨f, h2, fun j hj => wf_bounds (h1 j hj)⟩
theorem sh_struct {d t : Nat} {fs : List (Nat × Nat)} {s b : Nat} {a : A} (ht : lk TT t = some ⟨.struct fs, s, b⟩) (h : ShA TT (d + 1) t a) : ∃ al, a = .rc al ∧ ShL TT d fs al := by
  simp only [ShA, ht] at h
  exact h
theorem sh_cons {d o t : Nat} {r : List (Nat × Nat)} {al : List A} (h : ShL TT (d + 1) ((o, t) :: r) al) : ∃ x xs, al = x :: xs ∧ ShA TT d t x ∧ ShL TT d r xs := by
  simp only [ShL] at h
  exact h
theorem sh_slice {d t e : Nat} {s b : Nat} {et : ET} {a : A} (ht : lk TT t = some ⟨.slice e, s, b⟩) (he : etOf TT e = some et) (h : ShA TT (d + 1) t a) : ∃ l : List et.den, a = .lst et l ∧ l.length ≤ maxLen ∧ ∀ x ∈ l, ShA TT d e (et.toA x) := by
  simp only [ShA, ht, he] at h
  obtain ⟨l, h1, h2, rfl⟩ := h
  exact ⟨l, rfl, h1, h2⟩
theorem sh_str {a : A} (h : ShA TT 8 9 a) : ∃ z : ByteArray, a = .v (.string z) ∧ z.size ≤ maxLen := by
  simp only [ShA, show lk TT 9 = some ⟨.str, 1, 16⟩ from rfl] at h
  obtain ⟨z, h1, rfl⟩ := h
  exact ⟨z, rfl, h1⟩
theorem sh_row {a : A} (h : ShA TT 8 28 a) : ∃ l : List Int, a = .lst (.one (.i .i16)) l ∧ l.length ≤ maxLen ∧ ∀ x ∈ l, -32768 ≤ x ∧ x ≤ 32767 := by
  obtain ⟨l, rfl, h1, h2⟩ := sh_slice (d := 7) (e := 48) (s := 1) (b := 24) (et := .one (.i .i16)) rfl rfl h
  refine ⟨l, rfl, h1, fun x hx => ?_⟩
  obtain ⟨n, e, hn⟩ := sh_int (d := 6) (k := .i16) (s := 1) (b := 2) rfl (h2 x hx)
  cases e; exact hn
theorem sh_jobs {a : A} (h : ShA TT 8 38 a) : ∃ l : List (Int × Int), a = .lst (.st [.i .i8, .i .u16]) l ∧ l.length ≤ maxLen ∧ ∀ x ∈ l, (-128 ≤ x.1 ∧ x.1 ≤ 127) ∧ (0 ≤ x.2 ∧ x.2 ≤ 65535) := by
  obtain ⟨l, rfl, h1, h2⟩ := sh_slice (d := 7) (e := 63) (s := 1) (b := 24) (et := .st [.i .i8, .i .u16]) rfl rfl h
  refine ⟨l, rfl, h1, fun x hx => ?_⟩
  obtain ⟨al, e, g⟩ := sh_struct (d := 6) (fs := [(0, 58), (1, 59)]) (s := 2) (b := 4) rfl (h2 x hx)
  obtain ⟨y, ys, rfl, h3, g1⟩ := sh_cons g
  obtain ⟨z, zs, rfl, h4, g2⟩ := sh_cons g1
  obtain rfl : zs = [] := by simpa only [ShL] using g2
  obtain ⟨n, rfl, hn⟩ := sh_int (d := 4) (k := .i8) (s := 1) (b := 1) rfl h3
  obtain ⟨m, rfl, hm⟩ := sh_int (d := 3) (k := .u16) (s := 1) (b := 2) rfl h4
  cases e; exact ⟨hn, hm⟩

end Go.Proofs.YtkohnhkehedflaaDoor
