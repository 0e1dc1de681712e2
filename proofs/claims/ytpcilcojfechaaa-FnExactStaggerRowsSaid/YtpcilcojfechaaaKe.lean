/- StaggerRows: the law holds for all arguments, in range or not. No condition. -/
import Derived.Test.YtpcilcojfechaaaKd
set_option linter.unusedVariables false
set_option linter.unusedSimpArgs false
set_option maxRecDepth 100000
namespace Go.RR
open Go Go.Proofs Go.RowKit

theorem NestV.slice {w : World} {lo : Nat} {k : IntKind} {l : List (List Int)} {v : Value} {vs : List Value} (h : NestV w lo k l v vs) : ∃ ao m c, v = .slice ao m c := by
  rcases h.own with ⟨_, ao, rfl⟩ | ⟨g', cap', _, _, rfl, _⟩
  · exact ⟨_, _, _, rfl⟩
  · exact ⟨_, _, _, rfl⟩
theorem stagC_in {L S W R : Nat} {near : Int} (hL : 1 ≤ L ∧ L ≤ 2000) (hS : S ≤ 200) (hW : 1 ≤ W ∧ W ≤ 200) (hR : 1 ≤ R ∧ R ≤ 20) (hn : 0 ≤ near ∧ near ≤ 2000) : StagC (L : Int) (S : Int) (W : Int) near (R : Int) (stag L S W near R).1 (stag L S W near R).2 := fun w => by
  refine (stag_walk hL hS hW hR hn w).mono ?_
  rintro e w' ⟨v, vs, rfl, hN, hb⟩
  obtain ⟨ao, m, c, rfl⟩ := hN.slice
  exact ⟨ao, m, c, vs, rfl, hN, hb⟩
theorem nest_none {w w' : World} {O : Nat → Prop} {v : Value} (h : ResV1 w w' O (rowsA []) v) : NestV w' w.heap.size .i16 [] v [] := by
  obtain ⟨xs, h1, h2⟩ := h
  have h1 : xs = [] := h1
  subst h1
  refine ⟨⟨rfl, fun i u h => (nomatch h), fun i j u v _ h => (nomatch h)⟩, ?_, fun g hg => ?_, fun u h => (nomatch h)⟩
  · rcases h2 with ⟨h0, ao, rfl⟩ | ⟨g, cap, cur, ty, rfl, hlo, hc, r⟩
    · exact .inl ⟨rfl, ao, rfl⟩
    · exact .inr ⟨g, cap, cur, ty, rfl, hc, r⟩
  · rcases h2 with ⟨h0, ao, rfl⟩ | ⟨g', cap, cur, ty, rfl, hlo, hc, hg', r⟩
    · cases ao <;> simp [ownG] at hg
    · simp only [ownG] at hg
      split at hg
      · cases hg
      · cases hg
        exact ⟨hlo, (Array.getElem?_eq_some_iff.1 hg').1⟩
theorem stagC_out {a0 a1 a2 a3 a4 : Int} (h : s_iStaggerRows a0 a1 a2 a3 a4 = some ([], 2)) : StagC a0 a1 a2 a3 a4 [] 2 := fun w => by
  refine (f_iStaggerRows_sound [.v (.int .i64 a0), .v (.int .i64 a1), .v (.int .i64 a2), .v (.int .i64 a3), .v (.int .i64 a4)] ([], 2) h w _ trivial (ints_arg [a0, a1, a2, a3, a4])).mono ?_
  rintro e w' ⟨v, rfl, ⟨vs, rfl, hlen, hres, _⟩, hb⟩
  match vs, hlen with
  | [u, x], _ =>
    have h1 : ResV1 w w' (Ow [u, x]) (rowsA []) u := hres 0 _ _ rfl rfl
    have h2 : ResV1 w w' (Ow [u, x]) (.v (.int .i64 2)) x := hres 1 _ _ rfl rfl
    have h2 : x = .int .i64 2 := h2.2
    subst h2
    have hN := nest_none h1
    obtain ⟨ao, m, c, rfl⟩ := hN.slice
    exact ⟨ao, m, c, [], rfl, hN, hb⟩
theorem within_eq (x a b : Int) : s_iwithin x a b = decide (a ≤ x ∧ x ≤ b) := by
  unfold s_iwithin
  by_cases h1 : a ≤ x <;> by_cases h2 : x ≤ b <;> simp [h1, h2]
theorem in_eq (x a b : Int) : s_sl00In x a b = decide (a ≤ x ∧ x ≤ b) := by
  unfold s_sl00In
  by_cases h1 : a ≤ x <;> by_cases h2 : x ≤ b <;> simp [h1, h2]
/-- Arguments that no rows are made of. -/
theorem out_range {a0 a1 a2 a3 a4 : Int} (h : ¬ ((1 ≤ a0 ∧ a0 ≤ 2000) ∧ (0 ≤ a1 ∧ a1 ≤ 200) ∧ (1 ≤ a2 ∧ a2 ≤ 200) ∧ (0 ≤ a3 ∧ a3 ≤ 2000) ∧ (1 ≤ a4 ∧ a4 ≤ 20))) :
    s_iStaggerRows a0 a1 a2 a3 a4 = some ([], 2) ∧ s_sStaggerRows a0 a1 a2 a3 a4 = some ([], 2) := by
  have hw : s_iisWidth [a2] = some (decide (1 ≤ a2 ∧ a2 ≤ 200)) := by
    rw [isWidth_all (by simp)]
    simp only [List.all_cons, List.all_nil, width_iff, Bool.and_true]
  unfold s_iStaggerRows t_iStaggerRows s_sStaggerRows t_sStaggerRows s_iisLong s_iisSeam s_sl05Long s_sl05Seam s_sl05Width s_sl05Near
  rw [hw]
  simp only [within_eq, in_eq, Option.bind]
  by_cases h0 : 1 ≤ a0 ∧ a0 ≤ 2000
  · by_cases h1 : 0 ≤ a1 ∧ a1 ≤ 200
    · by_cases h2 : 1 ≤ a2 ∧ a2 ≤ 200
      · by_cases h3 : 0 ≤ a3 ∧ a3 ≤ 2000
        · have h4 : ¬ (1 ≤ a4 ∧ a4 ≤ 20) := fun q => h ⟨h0, h1, h2, h3, q⟩
          rw [decide_eq_true h0, decide_eq_true h1, decide_eq_true h2, decide_eq_true h3, decide_eq_false h4]
          exact ⟨rfl, rfl⟩
        · rw [decide_eq_true h0, decide_eq_true h1, decide_eq_true h2, decide_eq_false h3]
          exact ⟨rfl, rfl⟩
      · rw [decide_eq_true h0, decide_eq_true h1, decide_eq_false h2]
        exact ⟨rfl, rfl⟩
    · rw [decide_eq_true h0, decide_eq_false h1]
      exact ⟨rfl, rfl⟩
  · rw [decide_eq_false h0]
    exact ⟨rfl, rfl⟩
theorem stag_small {L S W R : Nat} {near : Int} (hL : 1 ≤ L ∧ L ≤ 2000) (hW : 1 ≤ W ∧ W ≤ 200) (hR : 1 ≤ R ∧ R ≤ 20) : (stag L S W near R).1.length ≤ 20 ∧ ∀ r ∈ (stag L S W near R).1, r.length ≤ 60 := by
  unfold stag
  cases hb : (brk L S W W).2
  · exact ⟨by simp, fun r hr => by simp at hr⟩
  · rw [cond_true]
    cases hx : exitL (stG L S W near) [(brk L S W W).1] (List.range' 0 (R - 1)) with
    | inl o =>
      have hI := stag_inv (S := S) hL hW hb o hx
      refine ⟨?_, fun r hr => ?_⟩
      · have := hI.len
        show o.length ≤ 20
        omega
      · exact (hI.row r hr).1.l
    | inr r =>
      have : ∀ (ks : List Nat) (st : List (List Int)) r, exitL (stG L S W near) st ks = .inr r → r = ([], 6) := by
        intro ks
        induction ks with
        | nil => intro st r h; cases h
        | cons k ks ih =>
          intro st r h
          unfold exitL at h
          cases hg : stG L S W near st k with
          | inl st' => rw [hg] at h; exact ih st' r h
          | inr r' =>
            rw [hg] at h
            cases h
            unfold stG at hg
            cases hc : Nat.blt (atJ L S W near st) W <;> rw [hc] at hg <;> cases hg
            rfl
      have := this _ _ _ hx
      subst this
      exact ⟨by simp [endL], fun r hr => by simp [endL] at hr⟩
def SoundAt (P : Program) (f : Nat) (rs : List A) (C : ACall) : Prop :=
  ∀ r, C.c = some r → ∀ w vs, JJ P w → ArgsV w rs vs → Calls P f vs.toArray w fun e w' => ∃ v, e = .returned v ∧ ResR w w' (C.res r) v ∧ Below w.heap.size w w'
theorem sound_kit {P : Program} {f : Nat} {Φ : List A → ACall} (h : ∀ rs, SoundAt P f rs (Φ rs)) : Sound P f Φ := fun rs r e w vs hJ hv => h rs r e w vs hJ hv
noncomputable def c_wFnExactStaggerRows : List A → ACall
  | [.v (.int .i64 _), .v (.int .i64 _), .v (.int .i64 _), .v (.int .i64 _), .v (.int .i64 _)] => ⟨Bool, some true, fun r => .one (.v (.bool r))⟩
  | _ => ACall.fail
theorem law_at (a0 a1 a2 a3 a4 : Int) (w : World) : Calls Try.prog 3 #[.int .i64 a0, .int .i64 a1, .int .i64 a2, .int .i64 a3, .int .i64 a4] w fun e w' => e = .returned (.bool true) ∧ Below w.heap.size w w' := by
  by_cases h : (1 ≤ a0 ∧ a0 ≤ 2000) ∧ (0 ≤ a1 ∧ a1 ≤ 200) ∧ (1 ≤ a2 ∧ a2 ≤ 200) ∧ (0 ≤ a3 ∧ a3 ≤ 2000) ∧ (1 ≤ a4 ∧ a4 ≤ 20)
  · obtain ⟨h0, h1, h2, h3, h4⟩ := h
    obtain ⟨L, rfl⟩ := Int.eq_ofNat_of_zero_le (show 0 ≤ a0 by omega)
    obtain ⟨S, rfl⟩ := Int.eq_ofNat_of_zero_le (show 0 ≤ a1 by omega)
    obtain ⟨W, rfl⟩ := Int.eq_ofNat_of_zero_le (show 0 ≤ a2 by omega)
    obtain ⟨R, rfl⟩ := Int.eq_ofNat_of_zero_le (show 0 ≤ a4 by omega)
    have hL : 1 ≤ L ∧ L ≤ 2000 := by omega
    have hS : S ≤ 200 := by omega
    have hW : 1 ≤ W ∧ W ≤ 200 := by omega
    have hR : 1 ≤ R ∧ R ≤ 20 := by omega
    obtain ⟨h5, h6⟩ := stag_small (S := S) (near := a3) hL hW hR
    exact law_walk h5 h6 (stag_s hL hS hW hR h3) (stagC_in hL hS hW hR h3) w
  · obtain ⟨h1, h2⟩ := out_range h
    exact law_walk (by simp) (fun r hr => by simp at hr) h2 (stagC_out h1) w
theorem f_wFnExactStaggerRows_sound : Sound Try.prog 3 c_wFnExactStaggerRows := by
  refine sound_kit fun rs => ?_
  unfold c_wFnExactStaggerRows
  split
  · rename_i a0 a1 a2 a3 a4
    intro r hr w vs hJ hv
    cases hr
    obtain ⟨v0, _, rfl, ⟨q0, _⟩, v1, _, rfl, ⟨q1, _⟩, v2, _, rfl, ⟨q2, _⟩, v3, _, rfl, ⟨q3, _⟩, v4, _, rfl, ⟨q4, _⟩, rfl⟩ := hv
    cases q0; cases q1; cases q2; cases q3; cases q4
    refine (law_at a0 a1 a2 a3 a4 w).mono ?_
    rintro e w' ⟨rfl, hb⟩
    refine ⟨_, rfl, ⟨rfl, fun i a v h1 h2 => ?_, fun i j u v hij h1 h2 => ?_⟩, hb⟩
    · cases i with
      | zero => cases h1; cases h2; exact ⟨fun H => rfl, rfl⟩
      | succ i => cases h1
    · cases i with
      | succ i => cases h1
      | zero => cases j with
        | zero => exact absurd rfl hij
        | succ j => cases h2
  · intro r hr; cases hr
theorem law_StaggerRows {p q r s t : Prop} (_ : p) (_ : q) (_ : r) (_ : s) (_ : t) : (some true : Option Bool) = some true := rfl
end Go.RR
