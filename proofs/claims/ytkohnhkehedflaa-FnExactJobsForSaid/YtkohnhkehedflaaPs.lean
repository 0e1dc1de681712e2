/- What the rows of this seat share: arguments by their shapes. No condition; no theorem of the program. -/
import Derived.Test.YtkohnhkehedflaaTb
import Derived.Test.YtkohnhkehedflaaRq
import Derived.ChangeShapes
set_option linter.unusedVariables false
namespace Go.Proofs.Ytkohnhkehedflaa
open Go.ChangeShapes Go.WideShapes Go.ChangeAt Go.RowKit Go.RR

theorem Try.own : ownKnob Try.prog.godebug = none := by kernel_rfl
theorem Try.laidOut : laidOutB Try.prog = true := by kernel_rfl

theorem trodLen {H : Type} {enc : TypeId × Value → H} {P : Program} {w : World} {base : Nat} {spare : Nat → Bool} {held : Bool} : ∀ {ts : List TypeId} {vs : List Value} {ds : List (DataW H)} {ps : List MemPlace}, DataW.TrodAll enc P w base spare held ts vs ds ps → ds.length = ts.length
  | [], vs, ds, ps, h => by
    obtain ⟨_, rfl, _⟩ := trodAll_nil h
    rfl
  | t :: ts, vs, ds, ps, h => by
    obtain ⟨v, vs', d, ds', p, q, _, rfl, _, _, hr⟩ := trodAll_cons h
    rw [List.length_cons, List.length_cons, trodLen hr]
theorem wf_bounds {k : IntKind} {n : Int} (h : (Lit.int k n).wf = true) : k.min ≤ n ∧ n ≤ k.max := by
  simpa [Lit.wf] using h
theorem sh_int {d t : Nat} {k : IntKind} {s b : Nat} {a : A} (ht : lk TT t = some ⟨.int k, s, b⟩) (h : ShA TT (d + 1) t a) : ∃ n, a = .v (.int k n) ∧ (k.min ≤ n ∧ n ≤ k.max) := by
  simp only [ShA, ht] at h
  obtain ⟨n, h1, h2⟩ := h
  exact ⟨n, h2, wf_bounds h1⟩
theorem sh_arr {d t n e : Nat} {k : IntKind} {s b s' b' : Nat} {a : A} (ht : lk TT t = some ⟨.array n e, s, b⟩) (he : lk TT e = some ⟨.int k, s', b'⟩) (h : ShA TT (d + 1) t a) : ∃ f, a = .fa n k f ∧ ∀ j, j < n → k.min ≤ f j ∧ f j ≤ k.max := by
  simp only [ShA, ht, he] at h
  obtain ⟨f, h1, h2⟩ := h
  exact ⟨f, h2, fun j hj => wf_bounds (h1 j hj)⟩
theorem sh_struct {d t : Nat} {fs : List (Nat × Nat)} {s b : Nat} {a : A} (ht : lk TT t = some ⟨.struct fs, s, b⟩) (h : ShA TT (d + 1) t a) : ∃ al, a = .rc al ∧ ShL TT d fs al := by
  simp only [ShA, ht] at h
  exact h
theorem sh_cons {d o t : Nat} {r : List (Nat × Nat)} {al : List A} (h : ShL TT (d + 1) ((o, t) :: r) al) : ∃ x xs, al = x :: xs ∧ ShA TT d t x ∧ ShL TT d r xs := by
  simp only [ShL] at h
  exact h
theorem sh_slice {d t e : Nat} {s b : Nat} {et : ET} {a : A} (ht : lk TT t = some ⟨.slice e, s, b⟩) (he : etOf TT e = some et) (h : ShA TT (d + 1) t a) : ∃ l : List et.den, a = .lst et l ∧ l.length ≤ maxLen ∧ ∀ x ∈ l, ShA TT d e (et.toA x) := by
  simp only [ShA, ht, he] at h
  obtain ⟨l, h1, h2, rfl⟩ := h
  exact ⟨l, rfl, h1, h2⟩
theorem sh_pic {a : A} (h : ShA TT 8 84 a) : ∃ (w h : Int) (f : Nat → Int), a = .rc [.v (.int .i8 w), .v (.int .i8 h), .fa 144 .u8 f] ∧ (-128 ≤ w ∧ w ≤ 127) ∧ (-128 ≤ h ∧ h ≤ 127) ∧ ∀ j, j < 144 → 0 ≤ f j ∧ f j ≤ 255 := by
  obtain ⟨al, rfl, g⟩ := sh_struct (d := 7) (fs := [(0, 24), (1, 24), (2, 25)]) (s := 146) (b := 146) rfl h
  obtain ⟨x, xs, rfl, h1, g1⟩ := sh_cons g
  obtain ⟨y, ys, rfl, h2, g2⟩ := sh_cons g1
  obtain ⟨z, zs, rfl, h3, g3⟩ := sh_cons g2
  obtain rfl : zs = [] := by simpa only [ShL] using g3
  obtain ⟨w, rfl, hw⟩ := sh_int (d := 5) (k := .i8) (s := 1) (b := 1) rfl h1
  obtain ⟨v, rfl, hv⟩ := sh_int (d := 4) (k := .i8) (s := 1) (b := 1) rfl h2
  obtain ⟨f, rfl, hf⟩ := sh_arr (d := 3) (n := 144) (e := 5) (k := .u8) (s := 144) (b := 144) (s' := 1) (b' := 1) rfl rfl h3
  exact ⟨w, v, f, rfl, hw, hv, hf⟩
theorem sh_ints {a : A} (h : ShA TT 8 38 a) : ∃ l : List Int, a = .lst (.one (.i .i64)) l ∧ l.length ≤ maxLen ∧ ∀ x ∈ l, IntKind.i64.min ≤ x ∧ x ≤ IntKind.i64.max := by
  obtain ⟨l, rfl, h1, h2⟩ := sh_slice (d := 7) (e := 2) (s := 1) (b := 24) (et := .one (.i .i64)) rfl rfl h
  refine ⟨l, rfl, h1, fun x hx => ?_⟩
  obtain ⟨n, e, hn⟩ := sh_int (d := 6) (k := .i64) (s := 1) (b := 8) rfl (h2 x hx)
  cases e; exact hn
theorem sh_bytes {a : A} (h : ShA TT 8 22 a) : ∃ l : List Int, a = .lst (.one (.i .u8)) l ∧ l.length ≤ maxLen ∧ ∀ x ∈ l, 0 ≤ x ∧ x ≤ 255 := by
  obtain ⟨l, rfl, h1, h2⟩ := sh_slice (d := 7) (e := 5) (s := 1) (b := 24) (et := .one (.i .u8)) rfl rfl h
  refine ⟨l, rfl, h1, fun x hx => ?_⟩
  obtain ⟨n, e, hn⟩ := sh_int (d := 6) (k := .u8) (s := 1) (b := 1) rfl (h2 x hx)
  cases e; exact hn
theorem sh_jobs {a : A} (h : ShA TT 8 42 a) : ∃ l : List (Int × Int), a = .lst (.st [.i .i8, .i .u16]) l ∧ l.length ≤ maxLen ∧ ∀ x ∈ l, (-128 ≤ x.1 ∧ x.1 ≤ 127) ∧ (0 ≤ x.2 ∧ x.2 ≤ 65535) := by
  obtain ⟨l, rfl, h1, h2⟩ := sh_slice (d := 7) (e := 128) (s := 1) (b := 24) (et := .st [.i .i8, .i .u16]) rfl rfl h
  refine ⟨l, rfl, h1, fun x hx => ?_⟩
  obtain ⟨al, e, g⟩ := sh_struct (d := 6) (fs := [(0, 24), (1, 97)]) (s := 2) (b := 4) rfl (h2 x hx)
  obtain ⟨y, ys, rfl, h3, g1⟩ := sh_cons g
  obtain ⟨z, zs, rfl, h4, g2⟩ := sh_cons g1
  obtain rfl : zs = [] := by simpa only [ShL] using g2
  obtain ⟨n, rfl, hn⟩ := sh_int (d := 4) (k := .i8) (s := 1) (b := 1) rfl h3
  obtain ⟨m, rfl, hm⟩ := sh_int (d := 3) (k := .u16) (s := 1) (b := 2) rfl h4
  cases e; exact ⟨hn, hm⟩
theorem sh_slots {a : A} (h : ShA TT 8 50 a) : ∃ l : List (Int × Int), a = .lst (.st [.i .i8, .i .i16]) l ∧ l.length ≤ maxLen ∧ ∀ x ∈ l, (-128 ≤ x.1 ∧ x.1 ≤ 127) ∧ (-32768 ≤ x.2 ∧ x.2 ≤ 32767) := by
  obtain ⟨l, rfl, h1, h2⟩ := sh_slice (d := 7) (e := 135) (s := 1) (b := 24) (et := .st [.i .i8, .i .i16]) rfl rfl h
  refine ⟨l, rfl, h1, fun x hx => ?_⟩
  obtain ⟨al, e, g⟩ := sh_struct (d := 6) (fs := [(0, 24), (1, 101)]) (s := 2) (b := 4) rfl (h2 x hx)
  obtain ⟨y, ys, rfl, h3, g1⟩ := sh_cons g
  obtain ⟨z, zs, rfl, h4, g2⟩ := sh_cons g1
  obtain rfl : zs = [] := by simpa only [ShL] using g2
  obtain ⟨n, rfl, hn⟩ := sh_int (d := 4) (k := .i8) (s := 1) (b := 1) rfl h3
  obtain ⟨m, rfl, hm⟩ := sh_int (d := 3) (k := .i16) (s := 1) (b := 2) rfl h4
  cases e; exact ⟨hn, hm⟩

end Go.Proofs.Ytkohnhkehedflaa
