/- What the rows of this seat share: arguments by their shapes. No condition. -/
import Derived.Test.YtbmaolhjplapoaaGreatDoorTb
import Derived.Test.YtbmaolhjplapoaaGreatDoorRq
import Derived.ChangeShapes
set_option linter.unusedVariables false
namespace Go.Proofs.YtbmaolhjplapoaaGreatDoor
open Go.ChangeShapes Go.WideShapes Go.ChangeAt Go.RowKit Go.RR
theorem Tryz.own : ownKnob Tryz.prog.godebug = none := by kernel_rfl
theorem Tryz.laidOut : laidOutB Tryz.prog = true := by kernel_rfl
theorem trodLen {H : Type} {enc : TypeId × Value → H} {P : Program} {w : World} {base : Nat} {spare : Nat → Bool} {held : Bool} : ∀ {ts : List TypeId} {vs : List Value} {ds : List (DataW H)} {ps : List MemPlace}, DataW.TrodAll enc P w base spare held ts vs ds ps → ds.length = ts.length
 | [], vs, ds, ps, h => by
  obtain ⟨_, rfl, _⟩ := trodAll_nil h
  rfl
 | t :: ts, vs, ds, ps, h => by
  obtain ⟨v, vs', d, ds', p, q, _, rfl, _, _, hr⟩ := trodAll_cons h
  rw [List.length_cons, List.length_cons, trodLen hr]
theorem wf_bounds {k : IntKind} {n : Int} (h : (Lit.int k n).wf = true) : k.min ≤ n ∧ n ≤ k.max := by
 simpa [Lit.wf] using h
theorem sh_int {d t : Nat} {k : IntKind} {s b : Nat} {a : A} (ht : lk TT t = some ⟨.int k, s, b⟩) (h : ShA TT (d + 1) t a) : ∃ n, a = .v (.int k n) ∧ (k.min ≤ n ∧ n ≤ k.max) := by
 simp only [ShA, ht] at h
 obtain ⟨n, h1, h2⟩ := h
 exact ⟨n, h2, wf_bounds h1⟩
theorem sh_slice {d t e : Nat} {s b : Nat} {et : ET} {a : A} (ht : lk TT t = some ⟨.slice e, s, b⟩) (he : etOf TT e = some et) (h : ShA TT (d + 1) t a) : ∃ l : List et.den, a = .lst et l ∧ l.length ≤ maxLen ∧ ∀ x ∈ l, ShA TT d e (et.toA x) := by
 simp only [ShA, ht, he] at h
 obtain ⟨l, h1, h2, rfl⟩ := h
 exact ⟨l, rfl, h1, h2⟩
theorem sh_bytes {a : A} (h : ShA TT 8 22 a) : ∃ l : List Int, a = .lst (.one (.i .u8)) l ∧ l.length ≤ maxLen ∧ ∀ x ∈ l, 0 ≤ x ∧ x ≤ 255 := by
 obtain ⟨l, rfl, h1, h2⟩ := sh_slice (d := 7) (e := 5) (s := 1) (b := 24) (et := .one (.i .u8)) rfl rfl h
 refine ⟨l, rfl, h1, fun x hx => ?_⟩
 obtain ⟨n, e, hn⟩ := sh_int (d := 6) (k := .u8) (s := 1) (b := 1) rfl (h2 x hx)
 cases e; exact hn
end Go.Proofs.YtbmaolhjplapoaaGreatDoor
