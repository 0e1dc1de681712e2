/- Plain facts of rows whose widths are changed up to a sum. No condition. -/
import Derived.Test.YtbmaolhjplapoaaGreatDoorDb
import Derived.Test.YtbmaolhjplapoaaGreatDoorWd
set_option linter.unusedVariables false
set_option linter.unusedSimpArgs false
namespace Go.RR
open Go
def byW (left w : Int) : Int := if 0 < left then max (min left (8 - w)) 0 else min (max left (2 - w)) 0
def chgL : List Int → Int → List Int
 | [], _ => []
 | w :: r, left => (w + byW left w) :: chgL r (left - byW left w)
def chgE : List Int → Int → Int
 | [], left => left
 | w :: r, left => chgE r (left - byW left w)
def chgN : List Int → Int → Nat
 | [], _ => 0
 | w :: r, left => (if byW left w = 0 then 0 else 1) + chgN r (left - byW left w)
theorem chg_len : ∀ (r : List Int) (left : Int), (chgL r left).length = r.length
 | [], _ => rfl
 | w :: r, left => by simp [chgL, chg_len r]
theorem chg_sum : ∀ (r : List Int) (left : Int), (chgL r left).sum = r.sum + left - chgE r left
 | [], left => by simp [chgL, chgE]
 | w :: r, left => by
  simp only [chgL, chgE, List.sum_cons, chg_sum r]
  omega
theorem byW_rng (left w : Int) (hw : 1 ≤ w ∧ w ≤ 9) : 1 ≤ w + byW left w ∧ w + byW left w ≤ 9 := by
 unfold byW
 split <;> omega
theorem byW_left (left w : Int) : (0 ≤ left → 0 ≤ left - byW left w ∧ left - byW left w ≤ left) ∧ (left ≤ 0 → left - byW left w ≤ 0 ∧ left ≤ left - byW left w) := by
 unfold byW
 split <;> omega
theorem chg_rng : ∀ (r : List Int) (left : Int), (∀ w ∈ r, 1 ≤ w ∧ w ≤ 9) → ∀ w ∈ chgL r left, 1 ≤ w ∧ w ≤ 9
 | [], _, _, w, h => by cases h
 | a :: r, left, hr, w, h => by
  rcases List.mem_cons.1 h with rfl | h
  ·exact byW_rng left a (hr a (by simp))
  ·exact chg_rng r _ (fun x hx => hr x (by simp [hx])) w h
def difN : List Int → List Int → Nat
 | a :: l, b :: m => (if a = b then 0 else 1) + difN l m
 | _, _ => 0
theorem chg_dif : ∀ (r : List Int) (left : Int), difN (chgL r left) r = chgN r left
 | [], _ => rfl
 | w :: r, left => by
  simp only [chgL, difN, chgN, chg_dif r]
  congr 1
  by_cases h : byW left w = 0
  ·rw [if_pos h, if_pos (by omega)]
  ·rw [if_neg h, if_neg (by omega)]
theorem chgN_le : ∀ (r : List Int) (left : Int), chgN r left ≤ r.length
 | [], _ => Nat.le_refl _
 | w :: r, left => by
  have := chgN_le r (left - byW left w)
  simp only [chgN, List.length_cons]
  split <;> omega
theorem chgE_rng : ∀ (r : List Int) (left B : Int), -B ≤ left ∧ left ≤ B → -B ≤ chgE r left ∧ chgE r left ≤ B
 | [], _, _, h => h
 | w :: r, left, B, h => by
  obtain ⟨h1, h2⟩ := byW_left left w
  exact chgE_rng r _ B (by omega)
def chgS (r : List Int) (left : Int) (i : Nat) : List Int × Int × Int :=
 ((chgL r left).take i ++ r.drop i, chgE (r.take i) left, (chgN (r.take i) left : Int))
theorem chgE_append : ∀ (a b : List Int) (left : Int), chgE (a ++ b) left = chgE b (chgE a left)
 | [], _, _ => rfl
 | w :: a, b, left => chgE_append a b _
theorem chgN_append : ∀ (a b : List Int) (left : Int), chgN (a ++ b) left = chgN a left + chgN b (chgE a left)
 | [], _, _ => by simp [chgN, chgE]
 | w :: a, b, left => by
  simp only [List.cons_append, chgN, chgE, chgN_append a b]
  omega
theorem chgL_append : ∀ (a b : List Int) (left : Int), chgL (a ++ b) left = chgL a left ++ chgL b (chgE a left)
 | [], _, _ => rfl
 | w :: a, b, left => by simp only [List.cons_append, chgL, chgE, chgL_append a b]
theorem take_step {r : List Int} {i : Nat} (h : i < r.length) : r.take (i + 1) = r.take i ++ [r.getD i 0] := by
 rw [List.take_add_one, List.getElem?_eq_getElem h, List.getD_eq_getElem?_getD, List.getElem?_eq_getElem h]
 rfl
theorem chg_take {r : List Int} {left : Int} {i : Nat} (h : i < r.length) : (chgL r left).take (i + 1) = (chgL r left).take i ++ [r.getD i 0 + byW (chgE (r.take i) left) (r.getD i 0)] := by
 have e : chgL r left = chgL (r.take i) left ++ ((r.getD i 0 + byW (chgE (r.take i) left) (r.getD i 0)) :: chgL (r.drop (i + 1)) (chgE (r.take i) left - byW (chgE (r.take i) left) (r.getD i 0))) := by
  conv => lhs; rw [← List.take_append_drop i r]
  rw [chgL_append, List.drop_eq_getElem_cons h]
  simp only [chgL, List.getD_eq_getElem?_getD, List.getElem?_eq_getElem h, Option.getD_some]
 have hl : (chgL (r.take i) left).length = i := by rw [chg_len, List.length_take]; omega
 rw [e, List.take_append, List.take_append, hl]
 simp [List.take_of_length_le, hl, show i + 1 - i = 1 by omega]
theorem chg_step {r : List Int} {left : Int} {i : Nat} (h : i < r.length) :
  (chgS r left i).1.getD i 0 = r.getD i 0 ∧ (chgS r left (i + 1)).1 = (chgS r left i).1.set i (r.getD i 0 + byW (chgS r left i).2.1 (r.getD i 0)) ∧ (chgS r left (i + 1)).2.1 = (chgS r left i).2.1 - byW (chgS r left i).2.1 (r.getD i 0) ∧
  (chgS r left (i + 1)).2.2 = (chgS r left i).2.2 + (if byW (chgS r left i).2.1 (r.getD i 0) = 0 then 0 else 1) := by
 have hl : ((chgL r left).take i).length = i := by rw [List.length_take, chg_len]; omega
 refine ⟨?_, ?_, ?_, ?_⟩
 ·show (((chgL r left).take i ++ r.drop i).getD i 0) = _
  rw [List.getD_eq_getElem?_getD, List.getElem?_append_right (by omega), hl, Nat.sub_self, List.getElem?_drop, Nat.add_zero, List.getD_eq_getElem?_getD]
 ·show (chgL r left).take (i + 1) ++ r.drop (i + 1) = ((chgL r left).take i ++ r.drop i).set i _
  rw [chg_take h, List.set_append_right _ _ (by omega), hl, Nat.sub_self, List.drop_eq_getElem_cons h, List.set_cons_zero, List.append_assoc]
  rfl
 ·show chgE (r.take (i + 1)) left = chgE (r.take i) left - byW (chgE (r.take i) left) (r.getD i 0)
  rw [take_step h, chgE_append]; rfl
 ·show ((chgN (r.take (i + 1)) left : Nat) : Int) = _
  rw [take_step h, chgN_append]
  simp only [chgN, chgS]
  split <;> omega
theorem chgS_end (r : List Int) (left : Int) : chgS r left r.length = (chgL r left, chgE r left, (chgN r left : Int)) := by
 unfold chgS
 rw [List.take_of_length_le (by rw [chg_len]; omega), List.drop_length, List.take_length, List.append_nil]
theorem chgS_zero (r : List Int) (left : Int) : chgS r left 0 = (r, left, 0) := by
 unfold chgS
 simp [chgE, chgN]
end Go.RR
namespace Go.RR
open Go
theorem set_same {l : List Int} {i : Nat} {w : Int} (hi : i < l.length) (he : l.getD i 0 = w) : l.set i w = l := by
 rw [← he, List.getD_eq_getElem?_getD, List.getElem?_eq_getElem hi]
 exact List.set_getElem_self hi
theorem byW_small (lf w : Int) (hw : 1 ≤ w ∧ w ≤ 9) : -9 ≤ byW lf w ∧ byW lf w ≤ 9 := by
 have := byW_rng lf w hw
 omega
theorem chg_step_i {w lf ch : Int} {out : List Int} {i : Nat} (hi : i < out.length) (hl : out.length ≤ 1000) (he : out.getD i 0 = w) (hw : 1 ≤ w ∧ w ≤ 9) (hlf : -100000 ≤ lf ∧ lf ≤ 100000) (hch : 0 ≤ ch ∧ ch ≤ 1000) :
  f_q0n_n8 2 8 ch lf ((out.length : Nat) : Int) i out = some (.inl (2, 8, ch + (if byW lf w = 0 then 0 else 1), lf - byW lf w, ((out.length : Nat) : Int), ((i + 1 : Nat) : Int), out.set i (w + byW lf w))) := by
 have hb := byW_small lf w hw
 have hs0 : byW lf w = 0 → out.set i (w + byW lf w) = out := fun h0 => by rw [h0, Int.add_zero]; exact set_same hi he
 unfold f_q0n_n8
 rw [lt_true hi, inB_nat hi, toNat_nat, he, succ64 (by omega), IntWalk.i64_in w (by omega), cond_true, cond_true]
 by_cases h : 0 < lf
 ·have e : max (min lf (8 - w)) 0 = byW lf w := (if_pos h).symm
  rw [decide_eq_true (show lf > 0 from h), IntWalk.i64_in (8 - w) (by omega), e, cond_true]
  by_cases h0 : byW lf w = 0
  ·rw [hs0 h0, if_pos h0, h0]
   simp
  ·rw [if_neg h0, show (byW lf w != 0) = true by simp [h0], IntWalk.i64_in (ch + 1) (by omega), IntWalk.i64_in (lf - byW lf w) (by omega), IntWalk.i16_in (byW lf w) (by omega), IntWalk.i16_in (w + byW lf w) (by omega)]
   rfl
 ·have e : min (max lf (2 - w)) 0 = byW lf w := (if_neg h).symm
  rw [decide_eq_false (show ¬ lf > 0 from h), IntWalk.i64_in (2 - w) (by omega), e, cond_false]
  by_cases h0 : byW lf w = 0
  ·rw [hs0 h0, if_pos h0, h0]
   simp
  ·rw [if_neg h0, show (byW lf w != 0) = true by simp [h0], IntWalk.i64_in (ch + 1) (by omega), IntWalk.i64_in (lf - byW lf w) (by omega), IntWalk.i16_in (byW lf w) (by omega), IntWalk.i16_in (w + byW lf w) (by omega)]
   rfl
theorem chg_step_s {w lf ch : Int} {out : List Int} {i : Nat} (hi : i < out.length) (hl : out.length ≤ 1000) (he : out.getD i 0 = w) (hw : 1 ≤ w ∧ w ≤ 9) (hlf : -100000 ≤ lf ∧ lf ≤ 100000) (hch : 0 ≤ ch ∧ ch ≤ 1000) :
  f_q0s_n12 2 8 lf ch i out = some (.inl (2, 8, lf - byW lf w, ch + (if byW lf w = 0 then 0 else 1), ((i + 1 : Nat) : Int), out.set i (w + byW lf w))) := by
 have hb := byW_small lf w hw
 have hs0 : byW lf w = 0 → out.set i (w + byW lf w) = out := fun h0 => by rw [h0, Int.add_zero]; exact set_same hi he
 unfold f_q0s_n12
 rw [lt_true hi, inB_nat hi, toNat_nat, he, succ64 (by omega), IntWalk.i64_in w (by omega), cond_true, cond_true]
 simp only [min_if, max_if]
 by_cases h : 0 < lf
 ·have e : max 0 (min lf (8 - w)) = byW lf w := by unfold byW; rw [if_pos h]; omega
  rw [decide_eq_true (show lf > 0 from h), decide_eq_false (show ¬ lf < 0 by omega), IntWalk.i64_in (8 - w) (by omega), e, cond_true, cond_false]
  by_cases h0 : byW lf w = 0
  ·rw [hs0 h0, if_pos h0, h0]
   simp
  ·rw [if_neg h0, show (byW lf w != 0) = true by simp [h0], IntWalk.i64_in (ch + 1) (by omega), IntWalk.i64_in (lf - byW lf w) (by omega), IntWalk.i64_in (w + byW lf w) (by omega), IntWalk.i16_in (w + byW lf w) (by omega)]
   rfl
 ·rw [decide_eq_false (show ¬ lf > 0 from h), cond_false]
  by_cases hn : lf < 0
  ·have e : 0 - max 0 (min (0 - lf) (w - 2)) = byW lf w := by unfold byW; rw [if_neg h]; omega
   rw [decide_eq_true hn, IntWalk.i64_in (0 - lf) (by omega), IntWalk.i64_in (w - 2) (by omega), e, IntWalk.i64_in (byW lf w) (by omega), cond_true]
   by_cases h0 : byW lf w = 0
   ·rw [hs0 h0, if_pos h0, h0]
    simp
   ·rw [if_neg h0, show (byW lf w != 0) = true by simp [h0], IntWalk.i64_in (ch + 1) (by omega), IntWalk.i64_in (lf - byW lf w) (by omega), IntWalk.i64_in (w + byW lf w) (by omega), IntWalk.i16_in (w + byW lf w) (by omega)]
    rfl
  ·have h0 : byW lf w = 0 := by unfold byW; rw [if_neg h]; omega
   rw [decide_eq_false hn, cond_false, hs0 h0, if_pos h0, h0]
   simp
def chgR (r : List Int) (left : Int) : List Int × Int × Int := if chgE r left = 0 then (chgL r left, (chgN r left : Int), 0) else ([], 0, 6)
section
variable {r : List Int} (hr : ∀ x ∈ r, 1 ≤ x ∧ x ≤ 9) (hl : r.length ≤ 60) {left : Int} (hB : -10000 ≤ left ∧ left ≤ 10000)
include hr hl hB
theorem chgS_facts (i : Nat) : (chgS r left i).1.length = r.length ∧ (-10000 ≤ (chgS r left i).2.1 ∧ (chgS r left i).2.1 ≤ 10000) ∧ 0 ≤ (chgS r left i).2.2 ∧ (chgS r left i).2.2 ≤ 60 := by
 have _ := hr
 refine ⟨?_, chgE_rng _ left 10000 hB, ?_⟩
 ·simp only [chgS, List.length_append, List.length_take, List.length_drop, chg_len]; omega
 ·have := chgN_le (r.take i) left
  rw [List.length_take] at this
  show 0 ≤ ((chgN (r.take i) left : Nat) : Int) ∧ ((chgN (r.take i) left : Nat) : Int) ≤ 60
  omega
theorem chg_i : f_q0n_run8 (2, 8, 0, left, ((r.length : Nat) : Int), 0, r) = some (chgR r left) := by
 unfold f_q0n_run8
 have key := run_count (step := fun x => f_q0n_n8 x.1 x.2.1 x.2.2.1 x.2.2.2.1 x.2.2.2.2.1 x.2.2.2.2.2.1 x.2.2.2.2.2.2) (τ := Unit) r.length (fun i _ => (2, 8, (chgS r left i).2.2, (chgS r left i).2.1, ((r.length : Nat) : Int), (i : Int), (chgS r left i).1)) (fun _ _ => ()) (chgR r left) () (by omega) ?_ ?_
 ·simp only [chgS_zero] at key
  exact key
 ·intro i _ hi
  obtain ⟨f1, f2, f3⟩ := chgS_facts hr hl hB i
  obtain ⟨h1, h2, h3, h4⟩ := chg_step (left := left) hi
  show f_q0n_n8 2 8 (chgS r left i).2.2 (chgS r left i).2.1 (r.length : Nat) i (chgS r left i).1 = _
  have := chg_step_i (i := i) (by rw [f1]; exact hi) (by omega) h1 (hr _ (getD_mem' hi)) (lf := (chgS r left i).2.1) (by omega) (ch := (chgS r left i).2.2) (by omega)
  rw [f1] at this
  rw [this, h2, h3, h4]
 ·show f_q0n_n8 2 8 (chgS r left r.length).2.2 (chgS r left r.length).2.1 (r.length : Nat) (r.length : Nat) (chgS r left r.length).1 = _
  rw [chgS_end]
  unfold f_q0n_n8 chgR
  rw [lt_neg, cond_false]
  by_cases h0 : chgE r left = 0
  ·rw [if_pos h0, h0]; rfl
  ·rw [if_neg h0, show (chgE r left != 0) = true by simp [h0]]; rfl
theorem chg_s : f_q0s_run12 (2, 8, left, 0, 0, r) = some (chgR r left) := by
 unfold f_q0s_run12
 have key := run_count (step := fun x => f_q0s_n12 x.1 x.2.1 x.2.2.1 x.2.2.2.1 x.2.2.2.2.1 x.2.2.2.2.2) (τ := Unit) r.length (fun i _ => (2, 8, (chgS r left i).2.1, (chgS r left i).2.2, (i : Int), (chgS r left i).1)) (fun _ _ => ()) (chgR r left) () (by omega) ?_ ?_
 ·simp only [chgS_zero] at key
  exact key
 ·intro i _ hi
  obtain ⟨f1, f2, f3⟩ := chgS_facts hr hl hB i
  obtain ⟨h1, h2, h3, h4⟩ := chg_step (left := left) hi
  show f_q0s_n12 2 8 (chgS r left i).2.1 (chgS r left i).2.2 i (chgS r left i).1 = _
  rw [chg_step_s (i := i) (by rw [f1]; exact hi) (by omega) h1 (hr _ (getD_mem' hi)) (by omega) (by omega), h2, h3, h4]
 ·show f_q0s_n12 2 8 (chgS r left r.length).2.1 (chgS r left r.length).2.2 (r.length : Nat) (chgS r left r.length).1 = _
  rw [chgS_end]
  unfold f_q0s_n12 chgR
  simp only
  rw [chg_len, lt_neg, cond_false]
  by_cases h0 : chgE r left = 0
  ·rw [if_pos h0, h0]; rfl
  ·rw [if_neg h0, show (chgE r left != 0) = true by simp [h0]]; rfl
end
theorem OK9_okr {r : List Int} (hr : ∀ x ∈ r, 1 ≤ x ∧ x ≤ 9) (h1 : 1 ≤ r.length) (h2 : r.length ≤ 60) : OKR r := ⟨fun x hx => by have := hr x hx; omega, h1, h2⟩
theorem mul_rng {a b : Int} (ha : 0 ≤ a ∧ a ≤ 60) (hb : 0 ≤ b ∧ b ≤ 200) : 0 ≤ a * b ∧ a * b ≤ 12000 := by
 refine ⟨Int.mul_nonneg ha.1 hb.1, ?_⟩
 have := Int.mul_le_mul ha.2 hb.2 hb.1 (show (0 : Int) ≤ 60 by omega)
 omega
theorem rlen_eq (r : List Int) (S : Int) : rlen r S = ((r.length - 1 : Nat) : Int) * S + r.sum := by
 have : ∀ (l : List Int) (s : Int), l.foldl (· + ·) s = s + l.sum := by
  intro l
  induction l with
  | nil => intro s; simp
  | cons a l ih => intro s; rw [List.foldl_cons, ih, List.sum_cons]; omega
 unfold rlen
 rw [this]
theorem sum_rng {r : List Int} {a b : Int} (ha : 0 ≤ a) (h : ∀ x ∈ r, a ≤ x ∧ x ≤ b) : (r.length : Int) * a ≤ r.sum ∧ r.sum ≤ (r.length : Int) * b := by
 induction r with
 | nil => simp
 | cons x l ih =>
  have h1 := h x (by simp)
  have h2 := ih fun y hy => h y (by simp [hy])
  rw [List.sum_cons, List.length_cons, show (((l.length + 1 : Nat) : Int)) = (l.length : Int) + 1 by omega, Int.add_mul, Int.add_mul]
  omega
theorem len_s {r : List Int} {S : Int} (h : OKR r) (hS : 0 ≤ S ∧ S ≤ 200) : s_q0u r S = some (rlen r S) := by
 have hl := h.l
 have hp := h.p
 unfold s_q0u
 have hm : 0 ≤ ((r.length - 1 : Nat) : Int) * S ∧ ((r.length - 1 : Nat) : Int) * S ≤ 12000 := mul_rng (by omega) hS
 rw [len_ix (by omega) (by omega), Int.mul_comm, IntWalk.i64_in _ (by omega)]
 unfold f_q0u_run3
 refine run_listI (step := fun x => f_q0u_n3 x.1 x.2.1 x.2.2) 0 r (fun i s => (s, (i : Int), r)) (fun s x => s + x) (fun i s => 0 ≤ s ∧ s ≤ 12000 + 200 * (i : Int)) _ _ (by omega) (by omega) ?_ ?_
 ·intro i s hi hm hs
  have hx := h.w _ hm
  refine ⟨?_, by omega⟩
  show f_q0u_n3 s i r = _
  unfold f_q0u_n3
  rw [lt_true hi, inB_nat hi, toNat_nat, IntWalk.i64_in (r.getD i 0) (by omega), IntWalk.i64_in _ (by omega), succ64 (by omega)]
  rfl
 ·intro _
  show f_q0u_n3 _ (r.length : Nat) r = _
  unfold f_q0u_n3
  rw [lt_neg, cond_false]
  rfl
theorem asked_ok {r : List Int} {S : Int} (h : OKR r) (hS : 0 ≤ S ∧ S ≤ 200) : s_q11 r S = some 0 := by
 unfold s_q11
 rw [sok_ok h, show s_q1h S = true from seam_ok hS]
 rfl
theorem slengthOf_ok {r : List Int} {S : Int} (h : OKR r) (hS : 0 ≤ S ∧ S ≤ 200) : s_q0z r S = some (rlen r S, 0) := by
 unfold s_q0z
 rw [asked_ok h hS]
 simp only [Option.bind]
 rw [len_s h hS]
 rfl
theorem clone_ok {r : List Int} (h1 : 1 ≤ r.length) (h2 : r.length ≤ 1000) : s_q0d r = some r := by
 unfold s_q0d
 rw [show Nat.blt 0 r.length = true from Nat.ble_eq_true_of_le h1, fits_small (by simp; omega)]
 rfl
theorem iChange_ok {r : List Int} {S L : Int} (hr : ∀ x ∈ r, 1 ≤ x ∧ x ≤ 9) (h1 : 1 ≤ r.length) (h2 : r.length ≤ 60) (hS : 0 ≤ S ∧ S ≤ 200) (hL : 1 ≤ L ∧ L ≤ 2000) (hB : -10000 ≤ L - rlen r S ∧ L - rlen r S ≤ 10000) : s_q0n r S L 2 8 = some (chgR r (L - rlen r S)) := by
 have ho := OK9_okr hr h1 h2
 unfold s_q0n
 rw [valid_ok ho, seam_ok hS, long_ok hL, isWidth_all (l := [2, 8]) (by simp), show ([2, 8] : List Int).all s_q14 = true from rfl, clone_ok h1 (by omega), len_i ho hS]
 simp only [Option.bind, cond_true, show (s_q1k true true != 0) = false from rfl, cond_false, show decide ((2 : Int) > 8) = false from rfl]
 rw [IntWalk.i64_in _ (by omega)]
 exact chg_i hr h2 hB
theorem sChange_ok {r : List Int} {S L : Int} (hr : ∀ x ∈ r, 1 ≤ x ∧ x ≤ 9) (h1 : 1 ≤ r.length) (h2 : r.length ≤ 60) (hS : 0 ≤ S ∧ S ≤ 200) (hL : 1 ≤ L ∧ L ≤ 2000) (hB : -10000 ≤ L - rlen r S ∧ L - rlen r S ≤ 10000) : s_q0s r S L 2 8 = some (chgR r (L - rlen r S)) := by
 have ho := OK9_okr hr h1 h2
 unfold s_q0s
 rw [asked_ok ho hS, slong_ok hL hS, show s_q14 2 = true from rfl, show s_q14 8 = true from rfl, len_s ho hS]
 simp only [Option.bind, cond_true, Bool.not_true, cond_false, show decide ((2 : Int) > 8) = false from rfl, show ((0 : Int) == 0) = true from rfl, show ((0 : Int) != 0) = false from rfl]
 rw [IntWalk.i64_in _ (by omega), fits_small (by simp; omega), List.nil_append, cond_true]
 exact chg_s hr h2 hB
end Go.RR
namespace Go.RR
open Go
theorem tbl_succ (n : Nat) (f : Nat → Int) : tbl (n + 1) f = tbl n f ++ [f n] := by simp [tbl, List.range_succ]
def evR (R : Int) (k : Nat) : List Int × Bool := if R < (k : Int) then ([], false) else (evenL R.toNat k, true)
theorem q_rng {m k : Nat} (hk : 1 ≤ k) (hm : k ≤ m) (h2 : m ≤ 200) : 1 ≤ m / k ∧ m / k ≤ 200 ∧ (0 < m % k → m / k + 1 ≤ 200) := by
 have h1 : 1 ≤ m / k := (Nat.one_le_div_iff hk).2 hm
 have h3 : m / k ≤ m := Nat.div_le_self m k
 refine ⟨h1, by omega, fun h => ?_⟩
 have h4 := Nat.div_add_mod m k
 have h5 : 1 * (m / k) ≤ k * (m / k) := Nat.mul_le_mul_right _ hk
 omega
theorem evenW_rng {m k i : Nat} (hk : 1 ≤ k) (hm : k ≤ m) (h2 : m ≤ 200) : 1 ≤ evenW m k i ∧ evenW m k i ≤ 200 := by
 obtain ⟨h1, h3, h4⟩ := q_rng hk hm h2
 unfold evenW
 split
 ·rename_i h
  have := h4 (by omega)
  omega
 ·omega
theorem even_okr {R : Int} {k : Nat} (hk : 1 ≤ k ∧ k ≤ 60) (hR : R ≤ 200) (h : ¬ R < (k : Int)) : OKR (evenL R.toNat k) := by
 refine ⟨fun x hx => ?_, by rw [even_len]; exact hk.1, by rw [even_len]; exact hk.2⟩
 unfold evenL tbl at hx
 obtain ⟨i, _, rfl⟩ := List.mem_map.1 hx
 exact evenW_rng hk.1 (by omega) (by omega)
theorem iEven {R : Int} {k : Nat} (hk : 1 ≤ k ∧ k ≤ 60) (hR : -100000 ≤ R ∧ R ≤ 200) : s_q1y R (k : Int) = some (evR R k) := by
 unfold s_q1y evR
 by_cases h : R < (k : Int)
 ·rw [decide_eq_true h, if_pos h]; rfl
 ·rw [decide_eq_false h, if_neg h, cond_false, IntWalk.i64_in ((k : Int) * 200) (by omega), decide_eq_false (show ¬ R > (k : Int) * 200 by omega), cond_false]
  obtain ⟨m, rfl⟩ : ∃ m : Nat, R = (m : Int) := ⟨R.toNat, by omega⟩
  rw [Int.toNat_natCast]
  obtain ⟨q1, q2, q3⟩ := q_rng (m := m) hk.1 (by omega) (by omega)
  unfold f_q1y_run5
  refine run_count (step := fun x => f_q1y_n5 x.1 x.2.1 x.2.2.1 x.2.2.2.1 x.2.2.2.2) (τ := Unit) k (fun i _ => ((m : Int), (k : Int), (k : Int), (i : Int), tbl i (evenW m k))) (fun _ _ => ()) _ () (by omega) ?_ ?_
  ·intro i _ hi
   show f_q1y_n5 m k k i (tbl i (evenW m k)) = _
   unfold f_q1y_n5
   rw [lt_true hi, decide_eq_false (show ¬ (k : Int) = 0 by omega), succ64 (by omega), show Int.tmod (m : Int) (k : Int) = ((m % k : Nat) : Int) from rfl, show Int.tdiv (m : Int) (k : Int) = ((m / k : Nat) : Int) from rfl, cond_true, cond_false, cond_false, tbl_succ, IntWalk.i64_in ((m / k : Nat) : Int) (by omega)]
   by_cases hr : i < m % k
   ·have := q3 (by omega)
    rw [decide_eq_true (show (i : Int) < ((m % k : Nat) : Int) by omega), show evenW m k i = ((m / k + 1 : Nat) : Int) by unfold evenW; rw [if_pos hr], IntWalk.i64_in (((m / k : Nat) : Int) + 1) (by omega), IntWalk.i16_in (((m / k : Nat) : Int) + 1) (by omega), fits_small (by rw [tbl_len]; simp; omega)]
    rfl
   ·rw [decide_eq_false (show ¬ (i : Int) < ((m % k : Nat) : Int) by omega), cond_false, show evenW m k i = ((m / k : Nat) : Int) by unfold evenW; rw [if_neg hr, Nat.add_zero], IntWalk.i16_in ((m / k : Nat) : Int) (by omega), fits_small (by rw [tbl_len]; simp; omega)]
    rfl
  ·show f_q1y_n5 m k k k (tbl k (evenW m k)) = _
   unfold f_q1y_n5
   rw [lt_neg, cond_false]
   rfl
theorem sEven {L S : Int} {k : Nat} (hk : 1 ≤ k ∧ k ≤ 60) (hL : 1 ≤ L ∧ L ≤ 200) (hS : 0 ≤ S ∧ S ≤ 200) : s_q1e L S (k : Int) = some (evR (L - S * ((k : Int) - 1)) k) := by
 have hm := mul_rng (a := (k : Int) - 1) (b := S) (by omega) hS
 rw [Int.mul_comm] at hm
 unfold s_q1e evR
 rw [IntWalk.i64_in ((k : Int) - 1) (by omega), IntWalk.i64_in (S * ((k : Int) - 1)) (by omega), IntWalk.i64_in (L - S * ((k : Int) - 1)) (by omega)]
 generalize hR : L - S * ((k : Int) - 1) = R
 by_cases h : R < (k : Int)
 ·rw [decide_eq_true h, if_pos h]; rfl
 ·rw [decide_eq_false h, if_neg h, cond_false]
  obtain ⟨m, rfl⟩ : ∃ m : Nat, R = (m : Int) := ⟨R.toNat, by omega⟩
  rw [Int.toNat_natCast]
  obtain ⟨q1, q2, q3⟩ := q_rng (m := m) hk.1 (by omega) (by omega)
  unfold f_q1e_run6
  refine run_count (step := fun x => f_q1e_n6 x.1 x.2.1 x.2.2.1 x.2.2.2) (τ := Unit) k (fun i _ => ((k : Int), (m : Int), (i : Int), tbl i (evenW m k))) (fun _ _ => ()) _ () (by omega) ?_ ?_
  ·intro i _ hi
   show f_q1e_n6 k m i (tbl i (evenW m k)) = _
   unfold f_q1e_n6
   rw [lt_true hi, decide_eq_false (show ¬ (k : Int) = 0 by omega), succ64 (by omega), show Int.tmod (m : Int) (k : Int) = ((m % k : Nat) : Int) from rfl, show Int.tdiv (m : Int) (k : Int) = ((m / k : Nat) : Int) from rfl, cond_true, cond_false, cond_false, tbl_succ, IntWalk.i64_in ((m / k : Nat) : Int) (by omega)]
   by_cases hr : i < m % k
   ·have := q3 (by omega)
    rw [decide_eq_true (show (i : Int) < ((m % k : Nat) : Int) by omega), show evenW m k i = ((m / k + 1 : Nat) : Int) by unfold evenW; rw [if_pos hr], IntWalk.i64_in (((m / k : Nat) : Int) + 1) (by omega), IntWalk.i16_in (((m / k : Nat) : Int) + 1) (by omega), width_ok (by omega), fits_small (by rw [tbl_len]; simp; omega)]
    rfl
   ·rw [decide_eq_false (show ¬ (i : Int) < ((m % k : Nat) : Int) by omega), cond_false, show evenW m k i = ((m / k : Nat) : Int) by unfold evenW; rw [if_neg hr, Nat.add_zero], IntWalk.i16_in ((m / k : Nat) : Int) (by omega), width_ok (by omega), fits_small (by rw [tbl_len]; simp; omega)]
    rfl
  ·show f_q1e_n6 k m k (tbl k (evenW m k)) = _
   unfold f_q1e_n6
   rw [lt_neg, cond_false]
   rfl
def evRow (L S : Int) (k : Nat) : List Int × Int := cond (evR (L - S * ((k : Int) - 1)) k).2 ((evR (L - S * ((k : Int) - 1)) k).1, 0) ([], 6)
theorem iEvenIn {L S : Int} {k : Nat} (hk : 1 ≤ k ∧ k ≤ 60) (hL : 1 ≤ L ∧ L ≤ 200) (hS : 0 ≤ S ∧ S ≤ 200) : s_q1y (IntKind.wrap .i64 (L - (IntKind.wrap .i64 ((IntKind.wrap .i64 ((k : Int) - 1)) * S)))) (k : Int) = some (evR (L - S * ((k : Int) - 1)) k) := by
 have hm := mul_rng (a := (k : Int) - 1) (b := S) (by omega) hS
 rw [IntWalk.i64_in ((k : Int) - 1) (by omega), IntWalk.i64_in (((k : Int) - 1) * S) (by omega), IntWalk.i64_in _ (by omega), Int.mul_comm S]
 exact iEven hk (by omega)
theorem iEvenRow_ok {L S : Int} {k : Nat} (hk : 1 ≤ k ∧ k ≤ 60) (hL : 1 ≤ L ∧ L ≤ 200) (hS : 0 ≤ S ∧ S ≤ 200) : s_q15 L S (k : Int) = some (evRow L S k) := by
 unfold s_q15 evRow
 rw [long_ok (by omega), seam_ok hS, within_ok (x := (k : Int)) (by omega), iEvenIn hk hL hS]
 simp only [Option.bind, Bool.not_true, cond_false]
 cases (evR (L - S * ((k : Int) - 1)) k).2 <;> rfl
theorem sEvenRow_ok {L S : Int} {k : Nat} (hk : 1 ≤ k ∧ k ≤ 60) (hL : 1 ≤ L ∧ L ≤ 200) (hS : 0 ≤ S ∧ S ≤ 200) : s_q1b L S (k : Int) = some (evRow L S k) := by
 unfold s_q1b evRow
 rw [slong_ok (by omega) hS, in_ok (x := (k : Int)) (by omega), sEven hk hL hS]
 simp only [Option.bind, Bool.not_true, cond_false]
 cases (evR (L - S * ((k : Int) - 1)) k).2 <;> rfl
theorem even_len_ok {L S : Int} {k : Nat} (hk : 1 ≤ k ∧ k ≤ 60) (h : ¬ L - S * ((k : Int) - 1) < (k : Int)) : rlen (evenL (L - S * ((k : Int) - 1)).toNat k) S = L := by
 rw [rlen_eq, even_len, even_sum hk.1, show ((k - 1 : Nat) : Int) = (k : Int) - 1 by omega, Int.mul_comm ((k : Int) - 1)]
 omega
def okF (l : List Int) : Bool := l.all fun w => decide (2 ≤ w ∧ w ≤ 8)
def apW (w : Int) : Int := max (w - 4) (4 - w)
def apF (l : List Int) : Int := l.foldl (fun s w => s + apW w) 0
theorem between_ok {l : List Int} (h : OKR l) : s_q0a l 2 8 = some (okF l) := by
 have hl := h.l
 have e : ∀ x, x ∈ l → s_q07 x 2 8 = !decide (2 ≤ x ∧ x ≤ 8) := by
  intro x hx
  have hw := h.w x hx
  unfold s_q07 s_q1n
  rw [IntWalk.i64_in x (by omega)]
  by_cases h1 : 2 ≤ x <;> by_cases h2 : x ≤ 8 <;> simp [h1, h2]
 have hs1 : ∀ i, i < l.length → f_q04_n2 (l.length : Nat) i l 2 8 = some (cond (!decide (2 ≤ l.getD i 0 ∧ l.getD i 0 ≤ 8)) (Sum.inr (i : Int)) (Sum.inl (((l.length : Nat) : Int), ((i + 1 : Nat) : Int), l, 2, 8))) := by
  intro i hi
  unfold f_q04_n2
  rw [lt_true hi, inB_nat hi, toNat_nat, succ64 (by omega), e _ (getD_mem' hi)]
  simp only [cond_true]
  cases (!decide (2 ≤ l.getD i 0 ∧ l.getD i 0 ≤ 8)) <;> rfl
 have he1 : f_q04_n2 (l.length : Nat) (l.length : Nat) l 2 8 = some (Sum.inr (-1)) := by
  unfold f_q04_n2
  rw [lt_neg, cond_false]
 obtain ⟨r, h1, h2, _⟩ := run_idx (step := fun x => f_q04_n2 x.1 x.2.1 x.2.2.1 x.2.2.2.1 x.2.2.2.2) l.length (fun i => (((l.length : Nat) : Int), (i : Int), l, 2, 8)) (fun i => !decide (2 ≤ l.getD i 0 ∧ l.getD i 0 ≤ 8)) hs1 he1 l.length 0 FU (by omega) (FU_big (pow_big (by omega)))
 have h1 : iter (fun x => f_q04_n2 x.1 x.2.1 x.2.2.1 x.2.2.2.1 x.2.2.2.2) FU (((l.length : Nat) : Int), 0, l, 2, 8) = some r := h1
 unfold s_q0a s_q01 s_q04 f_q04_run2
 rw [h1]
 simp only [Option.bind]
 rw [h2, any_getD 0 l (fun x => !decide (2 ≤ x ∧ x ≤ 8))]
 unfold okF
 rw [any_not_all (fun x => decide (2 ≤ x ∧ x ≤ 8)) l, Bool.not_not]
theorem apW_rng {w : Int} (h : 1 ≤ w ∧ w ≤ 200) : 0 ≤ apW w ∧ apW w ≤ 200 := by unfold apW; omega
theorem ap_ok {l : List Int} (h : OKR l) : s_q0p l 4 = some (apF l) := by
 have hl := h.l
 unfold s_q0p f_q0p_run3
 refine run_listI (step := fun x => f_q0p_n3 x.1 x.2.1 x.2.2.1 x.2.2.2.1 x.2.2.2.2) 0 l (fun i s => (4, s, ((l.length : Nat) : Int), (i : Int), l)) (fun s w => s + apW w) (fun i s => 0 ≤ s ∧ s ≤ 200 * (i : Int)) _ 0 (by omega) (by omega) ?_ ?_
 ·intro i s hi hm hs
  have hw := h.w _ hm
  have ha := apW_rng hw
  refine ⟨?_, by omega⟩
  show f_q0p_n3 4 s (l.length : Nat) i l = _
  unfold f_q0p_n3
  rw [lt_true hi, inB_nat hi, toNat_nat, succ64 (by omega), IntWalk.i64_in (l.getD i 0) (by omega), IntWalk.i64_in (l.getD i 0 - 4) (by omega), IntWalk.i64_in (4 - l.getD i 0) (by omega), show max (l.getD i 0 - 4) (4 - l.getD i 0) = apW (l.getD i 0) from rfl, IntWalk.i64_in (s + apW (l.getD i 0)) (by omega)]
  rfl
 ·intro _
  show f_q0p_n3 4 _ (l.length : Nat) (l.length : Nat) l = _
  unfold f_q0p_n3
  rw [lt_neg, cond_false]
  rfl
section
variable {L S : Int} (hL : 1 ≤ L ∧ L ≤ 200) (hS : 0 ≤ S ∧ S ≤ 200)
def candF (L S : Int) (n : Nat) : List Int × Bool := evR (L - S * ((n : Int) - 1)) n
def goodC (L S : Int) (n : Nat) : Bool := (candF L S n).2 && okF (candF L S n).1
def fitG (L S : Int) (o : Option (List Int)) (i : Nat) : Option (List Int) :=
 cond (goodC L S (i + 1)) (match o with
  | none => some (candF L S (i + 1)).1
  | some b => cond (decide (apF (candF L S (i + 1)).1 < apF b)) (some (candF L S (i + 1)).1) (some b)) o
def FitI (L S : Int) (o : Option (List Int)) : Prop := ∀ b, o = some b → ∃ n : Nat, 1 ≤ n ∧ n ≤ 60 ∧ ¬ L - S * ((n : Int) - 1) < (n : Int) ∧ b = evenL (L - S * ((n : Int) - 1)).toNat n ∧ okF b = true
include hL hS
theorem cand_ok {n : Nat} (hn : 1 ≤ n ∧ n ≤ 60) (h : (candF L S n).2 = true) : ¬ L - S * ((n : Int) - 1) < (n : Int) ∧ (candF L S n).1 = evenL (L - S * ((n : Int) - 1)).toNat n ∧ OKR (candF L S n).1 := by
 have hm := mul_rng (a := (n : Int) - 1) (b := S) (by omega) hS
 rw [Int.mul_comm] at hm
 unfold candF evR at h ⊢
 by_cases h1 : L - S * ((n : Int) - 1) < (n : Int)
 ·rw [if_pos h1] at h; cases h
 ·rw [if_neg h1]
  exact ⟨h1, rfl, even_okr hn (by omega) h1⟩
theorem cand_no {n : Nat} (h : (candF L S n).2 = false) : (candF L S n).1 = [] := by
 have _ := hL
 have _ := hS
 unfold candF evR at h ⊢
 by_cases h1 : L - S * ((n : Int) - 1) < (n : Int)
 ·rw [if_pos h1]
 ·rw [if_neg h1] at h; cases h
theorem FitI.okr {b : List Int} (h : FitI L S (some b)) : OKR b ∧ 1 ≤ b.length := by
 obtain ⟨n, n1, n2, n3, rfl, n5⟩ := h b rfl
 have hm := mul_rng (a := (n : Int) - 1) (b := S) (by omega) hS
 rw [Int.mul_comm] at hm
 have := even_okr (k := n) ⟨n1, n2⟩ (show L - S * ((n : Int) - 1) ≤ 200 by omega) n3
 exact ⟨this, this.p⟩
theorem fitG_I {o : Option (List Int)} {i : Nat} (hi : i < 60) (h : FitI L S o) : FitI L S (fitG L S o i) := by
 unfold fitG
 cases hg : goodC L S (i + 1)
 ·exact h
 ·unfold goodC at hg
  rw [Bool.and_eq_true] at hg
  obtain ⟨c1, c2, c3⟩ := cand_ok hL hS (n := i + 1) (by omega) hg.1
  have hc : FitI L S (some (candF L S (i + 1)).1) := fun b hb => by
   cases hb
   exact ⟨i + 1, by omega, by omega, c1, c2, hg.2⟩
  cases o with
  | none => exact hc
  | some b =>
   simp only [cond_true]
   cases decide (apF (candF L S (i + 1)).1 < apF b)
   ·exact h
   ·exact hc
theorem fit_i {o : Option (List Int)} {i : Nat} (hi : i < 60) (h : FitI L S o) : f_q1j_n7 L S 2 8 4 ((i + 1 : Nat) : Int) o = some (.inl (L, S, 2, 8, 4, ((i + 1 + 1 : Nat) : Int), fitG L S o i)) := by
 have hm := mul_rng (a := ((i + 1 : Nat) : Int) - 1) (b := S) (by omega) hS
 have he := iEvenIn (k := i + 1) (by omega) hL hS
 have hdec : decide (((i + 1 : Nat) : Int) ≤ 60) = true := decide_eq_true (by omega)
 unfold fitG goodC
 cases o with
 | none =>
  show f_q1j_nA L S 2 8 4 ((i + 1 : Nat) : Int) = _
  unfold f_q1j_nA
  rw [hdec, he, succ64 (by omega)]
  simp only [cond_true, Option.bind]
  show (cond (candF L S (i + 1)).2 _ _) = _
  cases hc : (candF L S (i + 1)).2
  ·rfl
  ·obtain ⟨c1, c2, c3⟩ := cand_ok hL hS (n := i + 1) (by omega) hc
   rw [show evR (L - S * (((i + 1 : Nat) : Int) - 1)) (i + 1) = candF L S (i + 1) from rfl, between_ok c3]
   simp only [cond_true]
   cases okF (candF L S (i + 1)).1 <;> rfl
 | some b =>
  obtain ⟨b1, b2⟩ := FitI.okr hL hS h
  show f_q1j_nB L S 2 8 4 ((i + 1 : Nat) : Int) b = _
  unfold f_q1j_nB
  rw [hdec, he, succ64 (by omega), show Nat.blt 0 b.length = true from Nat.ble_eq_true_of_le b2]
  simp only [cond_true, Option.bind]
  show (cond (candF L S (i + 1)).2 _ _) = _
  cases hc : (candF L S (i + 1)).2
  ·rfl
  ·obtain ⟨c1, c2, c3⟩ := cand_ok hL hS (n := i + 1) (by omega) hc
   rw [show evR (L - S * (((i + 1 : Nat) : Int) - 1)) (i + 1) = candF L S (i + 1) from rfl, between_ok c3, ap_ok c3, ap_ok b1]
   simp only [cond_true]
   cases okF (candF L S (i + 1)).1
   ·rfl
   ·simp only [cond_true, Bool.and_self]
    cases decide (apF (candF L S (i + 1)).1 < apF b) <;> rfl
def fitO (L S : Int) : Option (List Int) := (List.range' 0 60).foldl (fitG L S) none
def fitR (L S : Int) : List Int × Int := match fitO L S with
 | none => ([], 6)
 | some b => (b, 0)
theorem fit_I (n : Nat) (hn : n ≤ 60) : FitI L S ((List.range' 0 n).foldl (fitG L S) none) := by
 induction n with
 | zero => exact fun b hb => by cases hb
 | succ n ih =>
  rw [List.range'_1_concat, List.foldl_append, List.foldl_cons, List.foldl_nil, Nat.zero_add]
  exact fitG_I hL hS (by omega) (ih (by omega))
theorem iFit_ok : s_q1j L S 2 8 4 = some (fitR L S) := by
 unfold s_q1j
 rw [long_ok (by omega), seam_ok hS, isWidth_all (l := [2, 8, 4]) (by simp), show ([2, 8, 4] : List Int).all s_q14 = true from rfl]
 simp only [Option.bind, Bool.not_true, cond_false, show decide ((2 : Int) > 8) = false from rfl]
 unfold f_q1j_run7
 refine run_countI (step := fun x => f_q1j_n7 x.1 x.2.1 x.2.2.1 x.2.2.2.1 x.2.2.2.2.1 x.2.2.2.2.2.1 x.2.2.2.2.2.2) 60 (fun i o => (L, S, 2, 8, 4, ((i + 1 : Nat) : Int), o)) (fitG L S) (fun _ o => FitI L S o) _ none (by omega) (fun b hb => by cases hb) ?_ ?_
 ·intro i o hi ho
  exact ⟨fit_i hL hS hi ho, fitG_I hL hS hi ho⟩
 ·intro ho
  show f_q1j_n7 L S 2 8 4 61 (fitO L S) = _
  have ho : FitI L S (fitO L S) := ho
  unfold fitR
  cases hf : fitO L S with
  | none => rfl
  | some b =>
   rw [hf] at ho
   obtain ⟨b1, b2⟩ := FitI.okr hL hS ho
   show f_q1j_nB L S 2 8 4 61 b = _
   unfold f_q1j_nB
   rw [show Nat.blt 0 b.length = true from Nat.ble_eq_true_of_le b2]
   rfl
def inF (st : Bool × Int) (w : Int) : Bool × Int := (st.1 && decide (2 ≤ w ∧ w ≤ 8), st.2 + apW w)
def nxt (best : List Int) (fw : Int) (r : List Int) (st : Bool × Int) : List Int × Int := cond (st.1 && (best.length == 0 || decide (st.2 < fw))) (r, st.2) (best, fw)
theorem fit_in {r best : List Int} {ok : Bool} {fw : Int} {n : Nat} (hr : (∀ x ∈ r, 1 ≤ x ∧ x ≤ 200) ∧ r.length ≤ 60) (hn : n < 100) :
  f_q1o_run13 (L, S, 2, 8, 4, fw, (n : Int), ok, 0, 0, best, r) = some (.inl (L, S, 2, 8, 4, (nxt best fw r (r.foldl inF (ok, 0))).2, ((n + 1 : Nat) : Int), (nxt best fw r (r.foldl inF (ok, 0))).1)) := by
 have _ := hL
 have _ := hS
 unfold f_q1o_run13
 refine run_listI (step := fun x => f_q1o_n13 x.1 x.2.1 x.2.2.1 x.2.2.2.1 x.2.2.2.2.1 x.2.2.2.2.2.1 x.2.2.2.2.2.2.1 x.2.2.2.2.2.2.2.1 x.2.2.2.2.2.2.2.2.1 x.2.2.2.2.2.2.2.2.2.1 x.2.2.2.2.2.2.2.2.2.2.1 x.2.2.2.2.2.2.2.2.2.2.2) 0 r (fun i st => (L, S, 2, 8, 4, fw, (n : Int), st.1, st.2, (i : Int), best, r)) inF (fun i st => 0 ≤ st.2 ∧ st.2 ≤ 200 * (i : Int)) _ (ok, 0) (by omega) (by simp) ?_ ?_
 ·intro i st hi hm hs
  have hw := hr.1 _ hm
  have ha := apW_rng hw
  refine ⟨?_, by unfold inF; dsimp only; omega⟩
  show f_q1o_n13 L S 2 8 4 fw n st.1 st.2 i best r = _
  unfold f_q1o_n13 inF
  rw [lt_true hi, inB_nat hi, toNat_nat, succ64 (by omega), IntWalk.i64_in (r.getD i 0) (by omega), IntWalk.i64_in (r.getD i 0 - 4) (by omega), IntWalk.i64_in (4 - r.getD i 0) (by omega), max_if, show max (r.getD i 0 - 4) (4 - r.getD i 0) = apW (r.getD i 0) from rfl, IntWalk.i64_in (st.2 + apW (r.getD i 0)) (by omega)]
  have e : s_q1w (r.getD i 0) 2 8 = decide (2 ≤ r.getD i 0 ∧ r.getD i 0 ≤ 8) := by
   unfold s_q1w
   by_cases h1 : 2 ≤ r.getD i 0 <;> by_cases h2 : r.getD i 0 ≤ 8 <;> simp [h1, h2]
  rw [e]
  cases st.1 <;> rfl
 ·intro _
  generalize r.foldl inF (ok, 0) = st
  show f_q1o_n13 L S 2 8 4 fw n st.1 st.2 (r.length : Nat) best r = _
  unfold f_q1o_n13 nxt
  rw [lt_neg, cond_false, succ64 (by omega)]
  cases st.1
  ·rfl
  ·have e : (((List.length best : Nat) : Int) == 0) = (best.length == 0) := by
    rw [Bool.eq_iff_iff, beq_iff_eq, beq_iff_eq]; omega
   rw [e]
   cases best.length == 0
   ·simp only [Bool.true_and, Bool.false_or, cond_true, cond_false]
    cases decide (st.2 < fw) <;> rfl
   ·rfl
theorem inF_all (l : List Int) : ∀ (ok : Bool) (s : Int), l.foldl inF (ok, s) = (ok && okF l, l.foldl (fun s w => s + apW w) s) := by
 have _ := hL
 have _ := hS
 induction l with
 | nil => intro ok s; simp [okF]
 | cons a l ih =>
  intro ok s
  rw [List.foldl_cons, List.foldl_cons]
  unfold inF at ih ⊢
  dsimp only
  rw [ih]
  simp only [okF, List.all_cons, Bool.and_assoc]
def stO : Option (List Int) → List Int × Int
 | none => ([], 0)
 | some b => (b, apF b)
theorem fit_s {o : Option (List Int)} {i : Nat} (hi : i < 60) (h : FitI L S o) : f_q1o_n8 L S 2 8 4 (stO o).2 ((i + 1 : Nat) : Int) (stO o).1 = some (.inl (L, S, 2, 8, 4, (stO (fitG L S o i)).2, ((i + 1 + 1 : Nat) : Int), (stO (fitG L S o i)).1)) := by
 unfold f_q1o_n8
 rw [decide_eq_true (show ((i + 1 : Nat) : Int) ≤ 60 by omega), sEven (k := i + 1) (by omega) hL hS]
 simp only [cond_true, Option.bind]
 show f_q1o_run13 (L, S, 2, 8, 4, (stO o).2, ((i + 1 : Nat) : Int), (candF L S (i + 1)).2, 0, 0, (stO o).1, (candF L S (i + 1)).1) = _
 have hc : (∀ x ∈ (candF L S (i + 1)).1, 1 ≤ x ∧ x ≤ 200) ∧ (candF L S (i + 1)).1.length ≤ 60 := by
  cases hc : (candF L S (i + 1)).2
  ·rw [cand_no hL hS hc]; simp
  ·obtain ⟨_, _, c3⟩ := cand_ok hL hS (n := i + 1) (by omega) hc
   exact ⟨c3.w, c3.l⟩
 rw [fit_in hL hS hc (by omega), inF_all hL hS]
 have e : nxt (stO o).1 (stO o).2 (candF L S (i + 1)).1 ((candF L S (i + 1)).2 && okF (candF L S (i + 1)).1, apF (candF L S (i + 1)).1) = stO (fitG L S o i) := by
  unfold nxt fitG goodC
  cases (candF L S (i + 1)).2 && okF (candF L S (i + 1)).1
  ·cases o <;> rfl
  ·cases o with
   | none => rfl
   | some b =>
    obtain ⟨b1, b2⟩ := FitI.okr hL hS h
    have : (b.length == 0) = false := by
     cases hb : b.length == 0
     ·rfl
     ·rw [beq_iff_eq] at hb; omega
    simp only [stO, this, Bool.true_and, Bool.false_or, cond_true]
    by_cases hd : apF (candF L S (i + 1)).1 < apF b
    ·simp [hd]
    ·simp [hd]
 show some (Sum.inl (L, S, (2 : Int), (8 : Int), (4 : Int), (nxt (stO o).1 (stO o).2 (candF L S (i + 1)).1 ((candF L S (i + 1)).2 && okF (candF L S (i + 1)).1, apF (candF L S (i + 1)).1)).2, ((i + 1 + 1 : Nat) : Int), (nxt (stO o).1 (stO o).2 (candF L S (i + 1)).1 ((candF L S (i + 1)).2 && okF (candF L S (i + 1)).1, apF (candF L S (i + 1)).1)).1)) = _
 rw [e]
theorem sFit_ok : s_q1o L S 2 8 4 = some (fitR L S) := by
 unfold s_q1o
 rw [slong_ok (by omega) hS, show s_q14 2 = true from rfl, show s_q14 8 = true from rfl, show s_q14 4 = true from rfl]
 simp only [Bool.not_true, cond_false, show decide ((2 : Int) > 8) = false from rfl]
 unfold f_q1o_run8
 refine run_countI (step := fun x => f_q1o_n8 x.1 x.2.1 x.2.2.1 x.2.2.2.1 x.2.2.2.2.1 x.2.2.2.2.2.1 x.2.2.2.2.2.2.1 x.2.2.2.2.2.2.2) 60 (fun i o => (L, S, 2, 8, 4, (stO o).2, ((i + 1 : Nat) : Int), (stO o).1)) (fitG L S) (fun _ o => FitI L S o) _ none (by omega) (fun b hb => by cases hb) ?_ ?_
 ·intro i o hi ho
  exact ⟨fit_s hL hS hi ho, fitG_I hL hS hi ho⟩
 ·intro ho
  show f_q1o_n8 L S 2 8 4 (stO (fitO L S)).2 61 (stO (fitO L S)).1 = _
  have ho : FitI L S (fitO L S) := ho
  unfold fitR
  cases hf : fitO L S with
  | none => rfl
  | some b =>
   rw [hf] at ho
   obtain ⟨b1, b2⟩ := FitI.okr hL hS ho
   have : (((List.length b : Nat) : Int) == 0) = false := by
    cases hb : (((List.length b : Nat) : Int) == 0)
    ·rfl
    ·rw [beq_iff_eq] at hb; omega
   show f_q1o_n8 L S 2 8 4 (apF b) 61 b = _
   unfold f_q1o_n8
   rw [this]
   rfl
end
end Go.RR
namespace Go.RR
open Go
def off (r : List Int) (S : Int) (i : Nat) : Int := ((r.take i).map (· + S)).sum
theorem off_zero (r : List Int) (S : Int) : off r S 0 = 0 := by simp [off]
theorem off_succ {r : List Int} {S : Int} {i : Nat} (h : i < r.length) : off r S (i + 1) = off r S i + r.getD i 0 + S := by
 unfold off
 rw [take_step h, List.map_append, List.sum_append]
 simp
 omega
theorem off_end (r : List Int) (S : Int) : off r S r.length = (r.map (· + S)).sum := by unfold off; rw [List.take_length]
theorem sum_plus (r : List Int) (S : Int) : (r.map (· + S)).sum = r.sum + (r.length : Int) * S := by
 induction r with
 | nil => simp
 | cons a l ih =>
  rw [List.map_cons, List.sum_cons, List.sum_cons, ih, List.length_cons, show ((l.length + 1 : Nat) : Int) = (l.length : Int) + 1 by omega, Int.add_mul]
  omega
theorem rlen_off {r : List Int} {S : Int} (h : 1 ≤ r.length) : off r S r.length = rlen r S + S := by
 rw [off_end, sum_plus, rlen_eq, show (r.length : Int) = ((r.length - 1 : Nat) : Int) + 1 by omega, Int.add_mul]
 omega
section
variable {r : List Int} (hr : ∀ x ∈ r, 1 ≤ x ∧ x ≤ 9) (hl : r.length ≤ 60) {S : Int} (hS : 0 ≤ S ∧ S ≤ 200)
include hr hl hS
theorem off_rng : ∀ i, i ≤ r.length → 0 ≤ off r S i ∧ off r S i ≤ 209 * (i : Int)
 | 0, _ => by rw [off_zero]; omega
 | i + 1, h => by
  have := off_rng i (by omega)
  have hw := hr _ (getD_mem' (d := 0) (show i < r.length by omega))
  rw [off_succ (show i < r.length by omega)]
  omega
theorem off_mono {i : Nat} : ∀ d, i + d < r.length → off r S i + r.getD i 0 + S ≤ off r S (i + 1 + d)
 | 0, h => by
  have _ := hr
  have _ := hl
  rw [Nat.add_zero, off_succ (show i < r.length by omega)]; omega
 | d + 1, h => by
  have := off_mono (i := i) d (by omega)
  have hw := hr _ (getD_mem' (d := 0) (show i + 1 + d < r.length by omega))
  rw [show i + 1 + (d + 1) = (i + 1 + d) + 1 by omega, off_succ (show i + 1 + d < r.length by omega)]
  omega
def overP (r : List Int) (S place : Int) (i : Nat) : Bool := decide (off r S i ≤ place) && decide (place < off r S i + r.getD i 0)
def overF (n j : Nat) : Int × Int := if j < n then ((j : Int), 0) else (0, 6)
theorem over_eq {place : Int} (hp : -100000 ≤ place ∧ place ≤ 100000) (h1 : 1 ≤ r.length) : s_q0q r S place = some (overF r.length (firstN (overP r S place) r.length 0)) := by
 unfold s_q0q
 rw [valid_ok (OK9_okr hr h1 hl), seam_ok hS]
 simp only [Option.bind, show (s_q1k true true != 0) = false from rfl, cond_false]
 unfold f_q0q_run6
 have key := iter_first (step := fun x => f_q0q_n6 x.1 x.2.1 x.2.2.1 x.2.2.2.1 x.2.2.2.2.1 x.2.2.2.2.2) (fun i => (S, place, off r S i, ((r.length : Nat) : Int), (i : Int), r)) (overP r S place) (overF r.length) r.length ?_ ?_ r.length 0 FU (by omega) (FU_big (pow_big (by omega)))
 ·simp only [off_zero] at key
  exact key
 ·intro i hi
  have hw := hr _ (getD_mem' (d := 0) hi)
  have ho := off_rng hr hl hS i (by omega)
  show f_q0q_n6 S place (off r S i) (r.length : Nat) i r = _
  unfold f_q0q_n6 overP overF
  rw [lt_true hi, inB_nat hi, toNat_nat, succ64 (by omega), IntWalk.i64_in (r.getD i 0) (by omega), IntWalk.i64_in (off r S i + r.getD i 0) (by omega), IntWalk.i64_in (r.getD i 0 + S) (by omega), IntWalk.i64_in (off r S i + (r.getD i 0 + S)) (by omega), off_succ hi, if_pos hi, show off r S i + (r.getD i 0 + S) = off r S i + r.getD i 0 + S by omega, cond_true, cond_true]
  by_cases c1 : off r S i ≤ place
  ·rw [decide_eq_true (show place ≥ off r S i from c1)]
   by_cases c2 : place < off r S i + r.getD i 0
   ·rw [decide_eq_true c2]; rfl
   ·rw [decide_eq_false c2]; rfl
  ·rw [decide_eq_false (show ¬ place ≥ off r S i from c1)]; rfl
 ·show f_q0q_n6 S place (off r S r.length) (r.length : Nat) (r.length : Nat) r = _
  unfold f_q0q_n6 overF
  rw [lt_neg, cond_false, if_neg (by omega)]
theorem firstN_is {p : Nat → Bool} : ∀ (k j i : Nat), j ≤ i → i < j + k → p i = true → (∀ t, j ≤ t → t < i → p t = false) → firstN p k j = i
 | 0, j, i, h1, h2, _, _ => by omega
 | k + 1, j, i, h1, h2, h3, h4 => by
  have _ := hr
  have _ := hl
  have _ := hS
  simp only [firstN]
  by_cases e : j = i
  ·subst e; rw [h3]; rfl
  ·rw [h4 j (Nat.le_refl _) (by omega), cond_false]
   exact firstN_is k (j + 1) i (by omega) (by omega) h3 fun t h5 h6 => h4 t (by omega) h6
theorem firstN_no {p : Nat → Bool} : ∀ (k j : Nat), (∀ t, j ≤ t → t < j + k → p t = false) → firstN p k j = j + k
 | 0, j, _ => rfl
 | k + 1, j, h => by
  have _ := hr
  have _ := hl
  have _ := hS
  simp only [firstN]
  rw [h j (Nat.le_refl _) (by omega), cond_false, firstN_no k (j + 1) fun t h5 h6 => h t (by omega) (by omega)]
  omega
theorem over_in {i : Nat} (hi : i < r.length) {d : Int} (hd : 0 ≤ d ∧ d < r.getD i 0) : s_q0q r S (off r S i + d) = some ((i : Int), 0) := by
 have hw := hr _ (getD_mem' (d := 0) hi)
 have ho := off_rng hr hl hS i (by omega)
 rw [over_eq hr hl hS (by omega) (by omega), firstN_is hr hl hS r.length 0 i (by omega) (by omega) ?_ ?_]
 ·unfold overF; rw [if_pos hi]
 ·unfold overP
  rw [decide_eq_true (by omega), decide_eq_true (by omega)]; rfl
 ·intro t _ ht
  have := off_mono hr hl hS (i := t) (i - t - 1) (by omega)
  rw [show t + 1 + (i - t - 1) = i by omega] at this
  unfold overP
  rw [decide_eq_false (show ¬ off r S i + d < off r S t + r.getD t 0 by omega), Bool.and_false]
theorem over_out {i : Nat} (hi : i < r.length) (h0 : 0 < S) : s_q0q r S (off r S i + r.getD i 0) = some (0, 6) := by
 have hw := hr _ (getD_mem' (d := 0) hi)
 have ho := off_rng hr hl hS i (by omega)
 rw [over_eq hr hl hS (by omega) (by omega), firstN_no hr hl hS r.length 0 ?_]
 ·unfold overF; rw [if_neg (by omega)]
 ·intro t _ ht
  unfold overP
  by_cases h1 : t ≤ i
  ·by_cases h2 : t = i
   ·subst h2
    rw [decide_eq_false (show ¬ off r S t + r.getD t 0 < off r S t + r.getD t 0 by omega), Bool.and_false]
   ·have := off_mono hr hl hS (i := t) (i - t - 1) (by omega)
    rw [show t + 1 + (i - t - 1) = i by omega] at this
    rw [decide_eq_false (show ¬ off r S i + r.getD i 0 < off r S t + r.getD t 0 by omega), Bool.and_false]
  ·have := off_mono hr hl hS (i := i) (t - i - 1) (by omega)
   rw [show i + 1 + (t - i - 1) = t by omega] at this
   rw [decide_eq_false (show ¬ off r S t ≤ off r S i + r.getD i 0 by omega), Bool.false_and]
theorem over_some {place : Int} (hp : -100000 ≤ place ∧ place ≤ 100000) (h1 : 1 ≤ r.length) : ∃ v, s_q0q r S place = some v := ⟨_, over_eq hr hl hS hp h1⟩
end
theorem J_all (r : List Int) (S : Int) : ∀ m, m ≤ r.length → (List.range' 0 m).foldl (jst r S) (0, []) = (off r S m, (List.range' 0 m).map fun i => (off r S (i + 1) - S, off r S (i + 1)))
 | 0, _ => by rw [off_zero]; rfl
 | m + 1, h => by
  rw [List.range'_1_concat, List.foldl_append, List.foldl_cons, List.foldl_nil, Nat.zero_add, J_all r S m (by omega), List.map_append, List.map_cons, List.map_nil]
  unfold jst
  dsimp only
  rw [off_succ (show m < r.length by omega), show off r S m + r.getD m 0 + S - S = off r S m + r.getD m 0 by omega]
theorem J_get {r : List Int} {S : Int} {i : Nat} (h : i + 1 < r.length) : (J r S).getD i (0, 0) = (off r S (i + 1) - S, off r S (i + 1)) := by
 unfold J
 rw [J_all r S _ (by omega)]
 simp [List.getD_eq_getElem?_getD, show i < r.length - 1 by omega]
end Go.RR
