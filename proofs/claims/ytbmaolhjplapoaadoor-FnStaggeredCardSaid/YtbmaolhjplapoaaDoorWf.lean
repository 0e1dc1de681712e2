/- Plain facts of rows and paths that are drawn; parts of a path and their stones. -/
import Derived.Test.YtbmaolhjplapoaaDoorWx
import Derived.Test.YtbmaolhjplapoaaDoorWd
import Derived.Test.YtbmaolhjplapoaaDoorVf
set_option linter.unusedVariables false
set_option linter.unusedSimpArgs false
namespace Go.RR
open Go

/-! ### Rows that are drawn -/
theorem pick_small {n : Nat} {k sd : Int} {l : List Int} (hl : Byt l) (hn : n ≤ 10000) (hk : 1 < k ∧ k ≤ 200) : ∃ (x m : Nat) (sd' : Int), s_sl00Src_pick k (n : Int) sd l = some ((x : Int), (m : Int), sd') ∧ (x : Int) < k ∧ n ≤ m ∧ m ≤ n + 2 := by
  obtain ⟨x, m, sd', e, _, h2, h3, h4⟩ := pick_ok (n := n) (k := k) (sd := sd) hl hn (by omega)
  obtain ⟨h5, h6⟩ := h2 hk.1
  exact ⟨x.toNat, m, sd', by rw [e, Int.toNat_of_nonneg h5], by omega, h3, h4⟩
theorem drawn_run {l : List Int} (hl : Byt l) : ∀ (k n M : Nat) (sd : Int) (r : List Int), k < M → n + 2 * k ≤ 1000 → OKW r → 1 ≤ r.length → r.length + k ≤ 6 →
    ∃ (m : Nat) (sd' : Int) (r' : List Int), iter (fun x => f_sl05Drawn_n3 x.1 x.2.1 x.2.2.1 x.2.2.2.1 x.2.2.2.2) M ((k : Int), (n : Int), sd, l, r) = some ((m : Int), sd', r') ∧ OKW r' ∧ 1 ≤ r'.length ∧ r'.length ≤ 6
  | 0, n, M + 1, sd, r, _, _, h1, h2, h3 => by
    refine ⟨n, sd, r, iter_out ?_, h1, h2, by omega⟩
    show f_sl05Drawn_n3 0 n sd l r = _
    unfold f_sl05Drawn_n3
    rfl
  | k + 1, n, M + 1, sd, r, hm, hn, h1, h2, h3 => by
    obtain ⟨x, m, sd', e, e1, e2, e3⟩ := pick_small (n := n) (k := 9) (sd := sd) hl (by omega) (by omega)
    have hs : f_sl05Drawn_n3 ((k + 1 : Nat) : Int) n sd l r = some (.inl ((k : Int), (m : Int), sd', l, r ++ [1 + (x : Int)])) := by
      unfold f_sl05Drawn_n3
      rw [decide_eq_true (show ((k + 1 : Nat) : Int) > 0 by omega), e]
      simp only [cond_true, Option.bind]
      rw [IntWalk.i64_in (1 + (x : Int)) (by omega), IntWalk.i16_in (1 + (x : Int)) (by omega), IntWalk.i64_in (((k + 1 : Nat) : Int) - 1) (by omega), fits_small (by simp; omega), show ((k + 1 : Nat) : Int) - 1 = (k : Int) by omega]
      rfl
    rw [iter_in (step := fun x => f_sl05Drawn_n3 x.1 x.2.1 x.2.2.1 x.2.2.2.1 x.2.2.2.2) (x := (((k + 1 : Nat) : Int), (n : Int), sd, l, r)) hs]
    refine drawn_run hl k m M sd' _ (by omega) (by omega) (fun y hy => ?_) (by simp) (by simp; omega)
    rcases List.mem_append.1 hy with hy | hy
    · exact h1 y hy
    · rw [List.mem_singleton] at hy; omega
  | k, n, 0, _, _, hm, _, _, _, _ => by omega
theorem A2Row_ok {l : List Int} (hl : Byt l) : ∃ r, s_sA2Row l = some r ∧ OKR r := by
  obtain ⟨x, m, sd, e, e1, _, e3⟩ := pick_small (n := 0) (k := 9) (sd := 0) hl (by omega) (by omega)
  obtain ⟨y, m2, sd2, f, f1, _, f3⟩ := pick_small (n := m) (k := 6) (sd := sd) hl (by omega) (by omega)
  obtain ⟨m3, sd3, r, g, g1, g2, g3⟩ := drawn_run hl y m2 FU sd2 [1 + (x : Int)] (FU_big (pow_big (by omega))) (by omega) (fun z hz => by rw [List.mem_singleton] at hz; omega) (by simp) (by simp; omega)
  refine ⟨r, ?_, ⟨g1, g2, by omega⟩⟩
  have e : s_sl00Src_pick 9 (s_sl00From l).1 (s_sl00From l).2 l = some ((x : Int), (m : Int), sd) := e
  unfold s_sA2Row s_sl05Drawn
  rw [e]
  simp only [Option.bind]
  rw [f]
  simp only
  rw [IntWalk.i64_in (1 + (x : Int)) (by omega), IntWalk.i16_in (1 + (x : Int)) (by omega)]
  unfold f_sl05Drawn_run3
  rw [g]

/-! ### Paths that are drawn -/
def Let (z : ByteArray) : Prop := ∀ b ∈ z.data.toList, b = 110 ∨ b = 101 ∨ b = 115 ∨ b = 119
theorem let_app {x y : ByteArray} (h1 : Let x) (h2 : Let y) : Let (x ++ y) := by
  intro b hb
  rw [ByteArray.data_append, Array.toList_append, List.mem_append] at hb
  exact hb.elim (h1 b) (h2 b)
theorem let_good {z : ByteArray} (h : Let z) : AllGood z := by
  intro i hi
  have hi' : i < z.data.toList.length := by simpa using hi
  have hb := h (z.data.toList.getD i 0) (getD_mem' hi')
  unfold byteAt
  rcases hb with e | e | e | e <;> rw [e] <;> rfl
def L4 : List ByteArray := [(⟨#[110]⟩ : ByteArray), (⟨#[101]⟩ : ByteArray), (⟨#[115]⟩ : ByteArray), (⟨#[119]⟩ : ByteArray)]
theorem L4_ok : ∀ z ∈ L4, z.size = 1 ∧ Let z := by
  intro z hz
  unfold L4 at hz
  simp only [List.mem_cons, List.not_mem_nil, or_false] at hz
  rcases hz with rfl | rfl | rfl | rfl <;> exact ⟨rfl, fun b hb => by simp at hb; simp [hb]⟩
theorem text_ok {n : Nat} {sd : Int} {l : List Int} (hl : Byt l) (hn : n ≤ 10000) : ∃ (z : ByteArray) (m : Nat) (sd' : Int), s_sl00Src_text (n : Int) sd l L4 = some (z, (m : Int), sd', L4) ∧ z ∈ L4 ∧ m ≤ n + 2 := by
  obtain ⟨x, m, sd', e, e1, _, e3⟩ := pick_small (n := n) (k := 4) (sd := sd) hl hn (by omega)
  unfold s_sl00Src_text
  have e : s_sl00Src_pick ((L4.length : Nat) : Int) (n : Int) sd l = some ((x : Int), (m : Int), sd') := e
  rw [e]
  have hx : x < L4.length := by show x < 4; omega
  simp only [Option.bind]
  rw [inB_nat hx]
  exact ⟨_, m, sd', rfl, getD_mem' hx, e3⟩
theorem step_run {l : List Int} {t : ByteArray} (ht : t.size = 1 ∧ Let t) : ∀ (k M : Nat) (z : ByteArray) (a b c : Int), k < M → z.size + k ≤ 1000 → Let z → -1000 ≤ a ∧ a ≤ 1000 →
    ∃ z', iter (fun x => f_sA2Path_n8 x.1 x.2.1 x.2.2.1 x.2.2.2.1 x.2.2.2.2.1 x.2.2.2.2.2.1 x.2.2.2.2.2.2) M (z, a, t, (k : Int), b, c, l) = some (.inl (z', a - 1, b, c, l)) ∧ z'.size = z.size + k ∧ Let z'
  | 0, M + 1, z, a, b, c, _, _, h, ha => by
    refine ⟨z, iter_out ?_, rfl, h⟩
    show f_sA2Path_n8 z a t 0 b c l = _
    unfold f_sA2Path_n8
    rw [IntWalk.i64_in (a - 1) (by omega)]
    rfl
  | k + 1, M + 1, z, a, b, c, hm, hz, h, ha => by
    have hs : f_sA2Path_n8 z a t ((k + 1 : Nat) : Int) b c l = some (.inl (z ++ t, a, t, (k : Int), b, c, l)) := by
      unfold f_sA2Path_n8
      rw [decide_eq_true (show ((k + 1 : Nat) : Int) > 0 by omega), fits_small (by omega), IntWalk.i64_in (((k + 1 : Nat) : Int) - 1) (by omega), show ((k + 1 : Nat) : Int) - 1 = (k : Int) by omega]
      rfl
    have hsz : (z ++ t).size = z.size + 1 := by rw [ByteArray.size_append, ht.1]
    obtain ⟨z', q1, q2, q3⟩ := step_run ht k M (z ++ t) a b c (by omega) (by omega) (let_app h ht.2) ha
    refine ⟨z', ?_, by omega, q3⟩
    rw [iter_in (step := fun x => f_sA2Path_n8 x.1 x.2.1 x.2.2.1 x.2.2.2.1 x.2.2.2.2.1 x.2.2.2.2.2.1 x.2.2.2.2.2.2) (x := (z, a, t, ((k + 1 : Nat) : Int), b, c, l)) hs]
    exact q1
  | k, 0, _, _, _, _, hm, _, _, _ => by omega
theorem path_run {l : List Int} (hl : Byt l) : ∀ (k n M : Nat) (sd : Int) (z : ByteArray), k < M → n + 10 * k ≤ 1000 → z.size + 9 * k ≤ 54 → Let z →
    ∃ z', iter (fun x => f_sA2Path_n4 x.1 x.2.1 x.2.2.1 x.2.2.2.1 x.2.2.2.2) M (z, (k : Int), (n : Int), sd, l) = some z' ∧ z.size + k ≤ z'.size ∧ z'.size ≤ 54 ∧ Let z'
  | 0, n, M + 1, sd, z, _, _, hz, h => by
    refine ⟨z, iter_out ?_, by omega, by omega, h⟩
    show f_sA2Path_n4 z 0 n sd l = _
    unfold f_sA2Path_n4
    rfl
  | k + 1, n, M + 1, sd, z, hm, hn, hz, h => by
    obtain ⟨t, m, sd1, e, e1, e2⟩ := text_ok (n := n) (sd := sd) hl (by omega)
    obtain ⟨x, m2, sd2, f, f1, _, f3⟩ := pick_small (n := m) (k := 9) (sd := sd1) hl (by omega) (by omega)
    obtain ⟨z', q1, q2, q3⟩ := step_run (l := l) (L4_ok t e1) (1 + x) FU z ((k + 1 : Nat) : Int) (m2 : Int) sd2 (FU_big (pow_big (by omega))) (by omega) h (by omega)
    have hs : f_sA2Path_n4 z ((k + 1 : Nat) : Int) n sd l = some (.inl (z', (k : Int), (m2 : Int), sd2, l)) := by
      unfold f_sA2Path_n4
      rw [decide_eq_true (show ((k + 1 : Nat) : Int) > 0 by omega), show s_sl00Src_text (n : Int) sd l [(⟨#[110]⟩ : ByteArray), (⟨#[101]⟩ : ByteArray), (⟨#[115]⟩ : ByteArray), (⟨#[119]⟩ : ByteArray)] = some (t, (m : Int), sd1, L4) from e]
      simp only [cond_true, Option.bind]
      rw [f]
      simp only
      rw [IntWalk.i64_in (1 + (x : Int)) (by omega), show 1 + (x : Int) = ((1 + x : Nat) : Int) by omega]
      unfold f_sA2Path_run8
      rw [q1, show ((k + 1 : Nat) : Int) - 1 = (k : Int) by omega]
    obtain ⟨z2, p1, p2, p3, p4⟩ := path_run hl k m2 M sd2 z' (by omega) (by omega) (by omega) q3
    refine ⟨z2, ?_, by omega, p3, p4⟩
    rw [iter_in (step := fun x => f_sA2Path_n4 x.1 x.2.1 x.2.2.1 x.2.2.2.1 x.2.2.2.2) (x := (z, ((k + 1 : Nat) : Int), (n : Int), sd, l)) hs]
    exact p1
  | k, n, 0, _, _, hm, _, _, _ => by omega
theorem A2Path_ok {l : List Int} (hl : Byt l) : ∃ z, s_sA2Path l = some z ∧ 1 ≤ z.size ∧ z.size ≤ 54 ∧ AllGood z := by
  obtain ⟨x, m, sd, e, e1, _, e3⟩ := pick_small (n := 0) (k := 6) (sd := 0) hl (by omega) (by omega)
  obtain ⟨z, q1, q2, q3, q4⟩ := path_run hl (1 + x) m FU sd (⟨#[]⟩ : ByteArray) (FU_big (pow_big (by omega))) (by omega) (by show 0 + 9 * (1 + x) ≤ 54; omega) (fun b hb => by simp at hb)
  refine ⟨z, ?_, by omega, q3, let_good q4⟩
  have e : s_sl00Src_pick 6 (s_sl00From l).1 (s_sl00From l).2 l = some ((x : Int), (m : Int), sd) := e
  unfold s_sA2Path
  rw [e]
  simp only [Option.bind]
  rw [IntWalk.i64_in (1 + (x : Int)) (by omega), show 1 + (x : Int) = ((1 + x : Nat) : Int) by omega]
  unfold f_sA2Path_run4
  exact q1
end Go.RR
