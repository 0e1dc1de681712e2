/- Places in abstract values: where a path leads in the cells; what a store changes. No condition. -/
import Derived.Test.YtbmaolhjplapoaaGreatDoorRb
set_option linter.unusedVariables false
set_option linter.unusedSimpArgs false
namespace Go.RR
open Go Go.RowKit
def offA : A → List Nat → Option Nat
 | _, [] => some 0
 | .rc fs, i :: p => match fs[i]? with
  | some a => match offA a p with
   | some d => some (szL (fs.take i) + d)
   | none => none
  | none => none
 | .fa n _ _, [i] => if i < n then some i else none
 | .fb n _, [i] => if i < n then some i else none
 | .fa2 n m _ _, [i] => if i < n then some (i * m) else none
 | .fa2 n m _ _, [i, j] => if i < n ∧ j < m then some (i * m + j) else none
 | _, _ => none
def offC : Con → List Nat → Option Nat
 | .box a, p => offA a p
 | .arr e l, i :: p => if i < l.length then match offA (e.toA (l.getD i e.dflt)) p with
  | some d => some (i * e.sz + d)
  | none => none
  else none
 | .arr _ _, [] => none
theorem offA_nil (a : A) : offA a [] = some 0 := by cases a <;> rfl
theorem getA_nil (a : A) : getA a [] = some a := by cases a <;> rfl
theorem setA_nil (a x : A) : setA a [] x = cond (compat a x) (some x) none := by cases a <;> rfl
mutual
theorem compat_sz : ∀ (a x : A), compat a x = true → sz x = sz a
 | .v _, x, h => by cases x <;> first | rfl | (simp [compat] at h)
 | .nil _, x, h => by cases x <;> first | rfl | (simp [compat] at h)
 | .sl _, x, h => by cases x <;> first | rfl | (simp [compat] at h)
 | .ptr .., x, h => by cases x <;> first | rfl | (simp [compat] at h)
 | .clo .., x, h => by cases x <;> first | rfl | (simp [compat] at h)
 | .lst .., x, h => by cases x <;> first | rfl | (simp [compat] at h)
 | .ref .., x, h => by cases x <;> first | rfl | (simp [compat] at h)
 | .fa n k f, x, h => by
  cases x <;> first | (simp [compat] at h; done) | skip
  simp only [compat, Bool.and_eq_true, Nat.beq_eq] at h
  simp only [sz, h.2]
 | .fb n f, x, h => by
  cases x <;> first | (simp [compat] at h; done) | skip
  simp only [compat, Nat.beq_eq] at h
  simp only [sz, h]
 | .fa2 n m k f, x, h => by
  cases x <;> first | (simp [compat] at h; done) | skip
  simp only [compat, Bool.and_eq_true, Nat.beq_eq] at h
  simp only [sz, h.1.2, h.2]
 | .rc fs, x, h => by
  cases x <;> first | (simp [compat] at h; done) | skip
  rename_i gs
  simp only [compat] at h
  simp only [sz]
  exact compatL_sz fs gs h
theorem compatL_sz : ∀ (fs gs : List A), compatL fs gs = true → szL gs = szL fs
 | [], [], _ => rfl
 | [], _ :: _, h => by simp [compatL] at h
 | _ :: _, [], h => by simp [compatL] at h
 | a :: as, b :: bs, h => by
  simp only [compatL, Bool.and_eq_true] at h
  simp only [szL, compat_sz a b h.1, compatL_sz as bs h.2]
end
theorem compatL_get : ∀ (fs gs : List A), compatL fs gs = true → ∀ i, (fs[i]? = none ∧ gs[i]? = none) ∨ ∃ a b, fs[i]? = some a ∧ gs[i]? = some b ∧ compat a b = true ∧ szL (gs.take i) = szL (fs.take i)
 | [], [], _, i => by simp
 | [], _ :: _, h, _ => by simp [compatL] at h
 | _ :: _, [], h, _ => by simp [compatL] at h
 | a :: as, b :: bs, h, 0 => by
  simp only [compatL, Bool.and_eq_true] at h
  exact .inr ⟨a, b, rfl, rfl, h.1, rfl⟩
 | a :: as, b :: bs, h, i + 1 => by
  simp only [compatL, Bool.and_eq_true] at h
  rcases compatL_get as bs h.2 i with ⟨h1, h2⟩ | ⟨x, y, h1, h2, h3, h4⟩
  ·exact .inl ⟨by simpa using h1, by simpa using h2⟩
  ·exact .inr ⟨x, y, by simpa using h1, by simpa using h2, h3, by simp only [List.take_succ_cons, szL, h4, compat_sz a b h.1]⟩
theorem compat_off : ∀ (p : List Nat) (a x : A), compat a x = true → offA x p = offA a p
 | [], a, x, _ => by rw [offA_nil, offA_nil]
 | i :: p, a, x, h => by
  cases a <;> cases x <;> first | (simp [compat] at h; done) | (simp [offA]; done) | skip
  ·rename_i fs gs
   simp only [compat] at h
   simp only [offA]
   rcases compatL_get fs gs h i with ⟨h1, h2⟩ | ⟨a, b, h1, h2, h3, h4⟩
   ·simp [h1, h2]
   ·simp only [h1, h2, h4, compat_off p a b h3]
  ·simp only [compat, Bool.and_eq_true, Nat.beq_eq] at h
   obtain ⟨_, rfl⟩ := h
   cases p <;> simp [offA]
  ·simp only [compat, Nat.beq_eq] at h
   subst h
   cases p <;> simp [offA]
  ·simp only [compat, Bool.and_eq_true, Nat.beq_eq] at h
   obtain ⟨⟨_, rfl⟩, rfl⟩ := h
   cases p with
   | nil => simp [offA]
   | cons j p => cases p <;> simp [offA]
theorem range_split {α : Type} (g : Nat → α) {n i : Nat} (h : i < n) : (List.range n).map g = (List.range i).map g ++ [g i] ++ (List.range (n - i - 1)).map (fun j => g (i + 1 + j)) := by
 apply List.ext_getElem?
 intro j
 rw [List.append_assoc]
 rcases Nat.lt_trichotomy j i with hj | hj | hj
 ·rw [List.getElem?_append_left (by simpa using hj)]
  simp [hj, Nat.lt_trans hj h]
 ·subst hj
  rw [List.getElem?_append_right (by simp)]
  simp [h]
 ·rw [List.getElem?_append_right (by simp; omega)]
  simp only [List.length_map, List.length_range, List.singleton_append, List.getElem?_map]
  obtain ⟨k, rfl⟩ : ∃ k, j = i + 1 + k := ⟨j - i - 1, by omega⟩
  rw [show i + 1 + k - i = k + 1 by omega, List.getElem?_cons_succ]
  by_cases hk : i + 1 + k < n
  ·simp [hk, show k < n - i - 1 by omega]
  ·simp [hk, show ¬ k < n - i - 1 by omega]
theorem range_seg {α : Type} (g : Nat → α) {n a m : Nat} (h : a + m ≤ n) : (List.range n).map g = (List.range a).map g ++ (List.range m).map (fun j => g (a + j)) ++ (List.range (n - a - m)).map (fun j => g (a + m + j)) := by
 apply List.ext_getElem?
 intro j
 rw [List.append_assoc]
 by_cases h1 : j < a
 ·rw [List.getElem?_append_left (by simpa using h1)]
  simp [h1, show j < n by omega]
 ·rw [List.getElem?_append_right (by simp; omega)]
  by_cases h2 : j < a + m
  ·rw [List.getElem?_append_left (by simp; omega)]
   simp [show j < n by omega, show j - a < m by omega, show a + (j - a) = j by omega]
  ·rw [List.getElem?_append_right (by simp; omega)]
   by_cases h3 : j < n
   ·simp [h3, show j - a - m < n - a - m by omega, show a + m + (j - a - m) = j by omega]
   ·simp [h3, show ¬ j - a - m < n - a - m by omega]
theorem beqF {a b : Nat} (h : a ≠ b) : Nat.beq a b = false := by
 cases e : Nat.beq a b
 ·rfl
 ·exact absurd (Nat.eq_of_beq_eq_true e) h
theorem map_upd (k : IntKind) (f : Nat → Int) (x : Int) {n i : Nat} (h : i < n) : (List.range n).map (fun j => Value.int k (upd f i x j)) = (List.range i).map (fun j => Value.int k (f j)) ++ [.int k x] ++ (List.range (n - i - 1)).map (fun j => .int k (f (i + 1 + j))) := by
 rw [range_split _ h]
 congr 1
 ·congr 1
  ·apply List.map_congr_left
   intro j hj
   have : Nat.beq j i = false := beqF (by have := List.mem_range.1 hj; omega)
   simp [upd, this]
  ·simp [upd]
 ·apply List.map_congr_left
  intro j hj
  have : Nat.beq (i + 1 + j) i = false := beqF (by omega)
  simp [upd, this]
theorem map_updb (f : Nat → Bool) (x : Bool) {n i : Nat} (h : i < n) : (List.range n).map (fun j => Value.bool (updb f i x j)) = (List.range i).map (fun j => Value.bool (f j)) ++ [.bool x] ++ (List.range (n - i - 1)).map (fun j => .bool (f (i + 1 + j))) := by
 rw [range_split _ h]
 congr 1
 ·congr 1
  ·apply List.map_congr_left
   intro j hj
   have : Nat.beq j i = false := beqF (by have := List.mem_range.1 hj; omega)
   simp [updb, this]
  ·simp [updb]
 ·apply List.map_congr_left
  intro j hj
  have : Nat.beq (i + 1 + j) i = false := beqF (by omega)
  simp [updb, this]
theorem divmod_lt {n m i j : Nat} (hi : i < n) (hj : j < m) : i * m + j < n * m ∧ (i * m + j) / m = i ∧ (i * m + j) % m = j := by
 have hm : 0 < m := by omega
 refine ⟨?_, ?_, ?_⟩
 ·have : (i + 1) * m ≤ n * m := Nat.mul_le_mul_right _ hi
  rw [Nat.succ_mul] at this; omega
 ·rw [Nat.mul_comm, Nat.mul_add_div hm, Nat.div_eq_of_lt hj, Nat.add_zero]
 ·rw [Nat.mul_comm, Nat.mul_add_mod, Nat.mod_eq_of_lt hj]
theorem encL_append (σ : Nat → Value) : ∀ xs ys : List A, encL σ (xs ++ ys) = encL σ xs ++ encL σ ys
 | [], ys => rfl
 | x :: xs, ys => by simp only [List.cons_append, encL, encL_append σ xs ys, List.append_assoc]
theorem list_split {α : Type} {fs : List α} {i : Nat} {a : α} (h : fs[i]? = some a) : fs = fs.take i ++ a :: fs.drop (i + 1) := by
 have hi : i < fs.length := (List.getElem?_eq_some_iff.1 h).1
 have he : fs[i] = a := (List.getElem?_eq_some_iff.1 h).2
 rw [← he, List.getElem_cons_drop, List.take_append_drop]
theorem list_set {α : Type} {fs : List α} {i : Nat} {a b : α} (h : fs[i]? = some a) : fs.set i b = fs.take i ++ b :: fs.drop (i + 1) := by
 have hi : i < fs.length := (List.getElem?_eq_some_iff.1 h).1
 rw [List.set_eq_take_append_cons_drop, if_pos hi]
theorem map_updR (k : IntKind) (f : Nat → Nat → Int) (g : Nat → Int) {n m i : Nat} (hi : i < n) : (List.range (n * m)).map (fun j => Value.int k (updR f i g (j / m) (j % m))) =
  (List.range (i * m)).map (fun j => Value.int k (f (j / m) (j % m))) ++ (List.range m).map (fun j => Value.int k (g j)) ++ (List.range (n * m - i * m - m)).map (fun j => Value.int k (f ((i * m + m + j) / m) ((i * m + m + j) % m))) := by
 have hle : i * m + m ≤ n * m := by rw [← Nat.succ_mul]; exact Nat.mul_le_mul_right _ hi
 rw [range_seg _ hle]
 congr 1
 ·congr 1
  ·apply List.map_congr_left
   intro q hq
   have hq := List.mem_range.1 hq
   have hne : q / m ≠ i := by
    have : q / m < i := Nat.div_lt_of_lt_mul (by rw [Nat.mul_comm]; exact hq)
    omega
   unfold updR
   rw [beqF hne]; rfl
  ·apply List.map_congr_left
   intro j hj
   have hj := List.mem_range.1 hj
   unfold updR
   rw [(divmod_lt hi hj).2.1, (divmod_lt hi hj).2.2, Nat.beq_refl]; rfl
 ·apply List.map_congr_left
  intro j hj
  have hm : 0 < m := by
   rcases Nat.eq_zero_or_pos m with h | h
   ·subst h
    simp at hj
   ·exact h
  have hne : (i * m + m + j) / m ≠ i := by
   have : i + 1 ≤ (i * m + m + j) / m := (Nat.le_div_iff_mul_le hm).2 (by rw [Nat.succ_mul]; omega)
   omega
  unfold updR
  rw [beqF hne]; rfl
theorem getA_enc (σ : Nat → Value) : ∀ (p : List Nat) (a x : A) (d : Nat), getA a p = some x → offA a p = some d →
  ∃ u v, enc σ a = u ++ enc σ x ++ v ∧ u.length = d ∧ ∀ y a', setA a p y = some a' → enc σ a' = u ++ enc σ y ++ v ∧ sz y = sz x ∧ compat x y = true
 | [], a, x, d, hg, ho => by
  rw [getA_nil] at hg
  rw [offA_nil] at ho
  obtain rfl := Option.some.inj hg
  obtain rfl := Option.some.inj ho
  refine ⟨[], [], by simp, rfl, fun y a' hs => ?_⟩
  rw [setA_nil] at hs
  obtain ⟨hc, hs⟩ := cond_some hs
  obtain rfl := Option.some.inj hs
  exact ⟨by simp, compat_sz _ _ hc, hc⟩
 | i :: p, a, x, d, hg, ho => by
  cases a with
  | rc fs =>
   simp only [getA] at hg
   simp only [offA] at ho
   cases hf : fs[i]? with
   | none => rw [hf] at hg; cases hg
   | some b =>
    rw [hf] at hg ho
    simp only at hg ho
    cases hb : offA b p with
    | none => rw [hb] at ho; cases ho
    | some d' =>
     rw [hb] at ho
     simp only [Option.some.injEq] at ho
     obtain ⟨u, v, h1, h2, h3⟩ := getA_enc σ p b x d' hg hb
     refine ⟨encL σ (fs.take i) ++ u, v ++ encL σ (fs.drop (i + 1)), ?_, ?_, fun y a' hs => ?_⟩
     ·simp only [enc]
      rw [list_split hf, encL_append]
      simp only [encL, h1, List.append_assoc]
      rw [← list_split hf]
     ·rw [List.length_append, encL_len, h2, ho]
     ·simp only [setA, hf] at hs
      cases hb' : setA b p y with
      | none => rw [hb'] at hs; cases hs
      | some b' =>
       rw [hb'] at hs
       obtain rfl := Option.some.inj hs
       obtain ⟨h4, h5⟩ := h3 y b' hb'
       refine ⟨?_, h5⟩
       simp only [enc]
       rw [list_set hf, encL_append]
       simp only [encL, h4, List.append_assoc]
  | fa n k f =>
   cases p with
   | cons _ _ => simp [getA] at hg
   | nil =>
    simp only [getA, Option.some.injEq] at hg
    simp only [offA] at ho
    split at ho
    ·rename_i hi
     obtain rfl := Option.some.inj ho
     subst hg
     refine ⟨_, _, by simp only [enc]; exact range_split _ hi, by simp, fun y a' hs => ?_⟩
     have hy : ∃ k' z, y = .v (.int k' z) := by
      cases y <;> first | (cases hs; done) | skip
      rename_i z
      cases z <;> first | (cases hs; done) | exact ⟨_, _, rfl⟩
     obtain ⟨k', z, rfl⟩ := hy
     simp only [setA] at hs
     obtain ⟨hk, hs2⟩ := cond_some hs
     have := keq_eq hk
     subst this
     obtain rfl := Option.some.inj hs2
     simp only [enc]
     exact ⟨map_upd _ _ _ hi, rfl, rfl⟩
    ·cases ho
  | fb n f =>
   cases p with
   | cons _ _ => simp [getA] at hg
   | nil =>
    simp only [getA, Option.some.injEq] at hg
    simp only [offA] at ho
    split at ho
    ·rename_i hi
     obtain rfl := Option.some.inj ho
     subst hg
     refine ⟨_, _, by simp only [enc]; exact range_split _ hi, by simp, fun y a' hs => ?_⟩
     have hy : ∃ z, y = .v (.bool z) := by
      cases y <;> first | (cases hs; done) | skip
      rename_i z
      cases z <;> first | (cases hs; done) | exact ⟨_, rfl⟩
     obtain ⟨z, rfl⟩ := hy
     simp only [setA, Option.some.injEq] at hs
     subst hs
     simp only [enc]
     exact ⟨map_updb _ _ hi, rfl, rfl⟩
    ·cases ho
  | fa2 n m k f =>
   cases p with
   | nil =>
    simp only [getA, Option.some.injEq] at hg
    simp only [offA] at ho
    split at ho
    ·rename_i hi
     obtain rfl := Option.some.inj ho
     subst hg
     have hle : i * m + m ≤ n * m := by rw [← Nat.succ_mul]; exact Nat.mul_le_mul_right _ hi
     refine ⟨(List.range (i * m)).map (fun j => .int k (f (j / m) (j % m))), (List.range (n * m - i * m - m)).map (fun j => .int k (f ((i * m + m + j) / m) ((i * m + m + j) % m))), ?_, ?_, fun y a' hs => ?_⟩
     ·simp only [enc]
      rw [range_seg _ hle]
      congr 2
      apply List.map_congr_left
      intro j hj
      have hj := List.mem_range.1 hj
      rw [(divmod_lt hi hj).2.1, (divmod_lt hi hj).2.2]
     ·simp
     ·cases y with
      | fa m' k' g =>
       obtain ⟨hk, hs2⟩ := cond_some hs
       simp only [Bool.and_eq_true, Nat.beq_eq] at hk
       have := keq_eq hk.1
       subst this
       obtain rfl := hk.2
       obtain rfl := Option.some.inj hs2
       simp only [enc]
       exact ⟨map_updR _ _ _ hi, rfl, by simp [compat, keq_refl]⟩
      | _ => cases hs
    ·cases ho
   | cons j p =>
    cases p with
    | cons _ _ => simp [getA] at hg
    | nil =>
     simp only [getA, Option.some.injEq] at hg
     simp only [offA] at ho
     split at ho
     ·rename_i hij
      obtain ⟨hi, hj⟩ := hij
      obtain rfl := Option.some.inj ho
      subst hg
      obtain ⟨h1, h2, h3⟩ := divmod_lt hi hj
      refine ⟨(List.range (i * m + j)).map (fun j => .int k (f (j / m) (j % m))), (List.range (n * m - (i * m + j) - 1)).map (fun q => .int k (f ((i * m + j + 1 + q) / m) ((i * m + j + 1 + q) % m))), ?_, ?_, fun y a' hs => ?_⟩
      ·simp only [enc]
       rw [range_split _ h1, h2, h3]
      ·simp
      ·have hy : ∃ k' z, y = .v (.int k' z) := by
        cases y <;> first | (cases hs; done) | skip
        rename_i z
        cases z <;> first | (cases hs; done) | exact ⟨_, _, rfl⟩
       obtain ⟨k', z, rfl⟩ := hy
       simp only [setA] at hs
       obtain ⟨hk, hs2⟩ := cond_some hs
       have := keq_eq hk
       subst this
       obtain rfl := Option.some.inj hs2
       refine ⟨?_, rfl, rfl⟩
       simp only [enc]
       rw [range_split _ h1, h2, h3]
       have other : ∀ q, q ≠ i * m + j → (q / m = i → q % m = j → False) := by
        intro q hq e1 e2
        apply hq
        rw [← e1, ← e2, Nat.mul_comm, Nat.div_add_mod]
       have hu : ∀ q, q ≠ i * m + j → upd2 f i j z (q / m) (q % m) = f (q / m) (q % m) := by
        intro q hq
        unfold upd2
        cases e1 : Nat.beq (q / m) i
        ·rfl
        ·cases e2 : Nat.beq (q % m) j
         ·rfl
         ·exact (other q hq (Nat.eq_of_beq_eq_true e1) (Nat.eq_of_beq_eq_true e2)).elim
       congr 1
       ·congr 1
        ·apply List.map_congr_left
         intro q hq
         have := List.mem_range.1 hq
         rw [hu q (by omega)]
        ·simp [upd2]
       ·apply List.map_congr_left
        intro q hq
        rw [hu _ (by omega)]
     ·cases ho
  | _ => simp [getA] at hg
mutual
theorem compat_refl : ∀ a : A, compat a a = true
 | .v _ | .nil _ | .sl _ | .ptr .. | .clo .. | .lst .. | .ref _ => rfl
 | .fa n k _ => by simp [compat, keq_refl]
 | .fb n _ => by simp [compat]
 | .fa2 n m k _ => by simp [compat, keq_refl]
 | .rc fs => by simp only [compat]; exact compatL_refl fs
theorem compatL_refl : ∀ fs : List A, compatL fs fs = true
 | [] => rfl
 | a :: as => by simp only [compatL, compat_refl a, compatL_refl as, Bool.and_self]
end
theorem compatL_set {b b' : A} (h : compat b b' = true) : ∀ (fs : List A) (i : Nat), fs[i]? = some b → compatL fs (fs.set i b') = true
 | [], i, hf => by cases hf
 | a :: as, 0, hf => by
  have : a = b := by simpa using hf
  subst this
  simp only [List.set, compatL, h, compatL_refl, Bool.and_self]
 | a :: as, i + 1, hf => by
  simp only [List.set, compatL, compat_refl, Bool.true_and]
  exact compatL_set h as i (by simpa using hf)
theorem setA_compat : ∀ (p : List Nat) (a x a' : A), setA a p x = some a' → compat a a' = true
 | [], a, x, a', h => by
  rw [setA_nil] at h
  obtain ⟨hc, h⟩ := cond_some h
  obtain rfl := Option.some.inj h
  exact hc
 | i :: p, .rc fs, x, a', h => by
  simp only [setA] at h
  split at h
  ·rename_i b hb
   split at h
   ·rename_i b' hb'
    obtain rfl := Option.some.inj h
    simp only [compat]
    exact compatL_set (setA_compat p _ _ _ hb') _ _ hb
   ·cases h
  ·cases h
 | i :: p, .fa n k f, x, a', h => by
  cases p with
  | cons _ _ => cases h
  | nil =>
   cases x with
   | v z =>
    cases z with
    | int k' z =>
     obtain ⟨hk, h2⟩ := cond_some h
     obtain rfl := Option.some.inj h2
     simp [compat, keq_refl]
    | _ => cases h
   | _ => cases h
 | i :: p, .fb n f, x, a', h => by
  cases p with
  | cons _ _ => cases h
  | nil =>
   cases x with
   | v z =>
    cases z with
    | bool z =>
     obtain rfl := Option.some.inj h
     simp [compat]
    | _ => cases h
   | _ => cases h
 | i :: p, .fa2 n m k f, x, a', h => by
  cases p with
  | nil =>
   cases x with
   | fa m' k' g =>
    obtain ⟨hk, h2⟩ := cond_some h
    obtain rfl := Option.some.inj h2
    simp [compat, keq_refl]
   | _ => cases h
  | cons j p =>
   cases p with
   | cons _ _ => cases h
   | nil =>
    cases x with
    | v z =>
     cases z with
     | int k' z =>
      obtain ⟨hk, h2⟩ := cond_some h
      obtain rfl := Option.some.inj h2
      simp [compat, keq_refl]
     | _ => cases h
    | _ => cases h
 | i :: p, .v _, x, a', h => by cases h
 | i :: p, .nil _, x, a', h => by cases h
 | i :: p, .sl _, x, a', h => by cases h
 | i :: p, .ptr .., x, a', h => by cases h
 | i :: p, .clo .., x, a', h => by cases h
 | i :: p, .lst .., x, a', h => by cases h
 | i :: p, .ref _, x, a', h => by cases h
theorem okL_mem : ∀ {fs : List A}, okL fs = true → ∀ {i : Nat} {a : A}, fs[i]? = some a → okA a = true
 | [], _, i, a, hf => by cases hf
 | b :: bs, h, 0, a, hf => by
  simp only [okL, Bool.and_eq_true] at h
  have : b = a := by simpa using hf
  rw [← this]; exact h.1
 | b :: bs, h, i + 1, a, hf => by
  simp only [okL, Bool.and_eq_true] at h
  exact okL_mem h.2 (i := i) (by simpa using hf)
theorem getA_ok : ∀ (p : List Nat) (a x : A), okA a = true → getA a p = some x → okA x = true
 | [], a, x, h, hg => by
  rw [getA_nil] at hg
  rw [← Option.some.inj hg]; exact h
 | i :: p, a, x, h, hg => by
  cases a with
  | rc fs =>
   simp only [getA] at hg
   split at hg
   ·rename_i b hb
    exact getA_ok p b x (okL_mem h hb) hg
   ·cases hg
  | fa n k f =>
   cases p with
   | cons _ _ => cases hg
   | nil => obtain rfl := Option.some.inj hg; rfl
  | fb n f =>
   cases p with
   | cons _ _ => cases hg
   | nil => obtain rfl := Option.some.inj hg; rfl
  | fa2 n m k f =>
   cases p with
   | nil => obtain rfl := Option.some.inj hg; rfl
   | cons j p =>
    cases p with
    | cons _ _ => cases hg
    | nil => obtain rfl := Option.some.inj hg; rfl
  | _ => cases hg
theorem toA_ok1 {t : RT} (x : t.den) (h : t.flat = true) : okA (t.toA x) = true := by cases t <;> first | rfl | cases h
theorem fieldsA_ok : ∀ (ts : List RT) (x : dens ts), ts.all RT.flat = true → okL (fieldsA ts x) = true
 | [], _, _ => rfl
 | [t], x, h => by
  simp only [List.all_cons, Bool.and_eq_true] at h
  show (okA (t.toA x) && true) = true
  rw [Bool.and_true]; exact toA_ok1 (t := t) x h.1
 | t :: u :: r, x, h => by
  rw [List.all_cons, Bool.and_eq_true] at h
  have h1 := toA_ok1 (t := t) x.1 h.1
  have h2 := fieldsA_ok (u :: r) x.2 h.2
  show (okA (t.toA x.1) && okL (fieldsA (u :: r) x.2)) = true
  rw [h1, h2]; rfl
theorem ElC.ok {I : Inn} {e : ET} {x : e.den} {cs : List Value} (h : ElC I e x cs) : (∃ k, e = .one (.ls k)) ∨ okA (e.toA x) = true := by
 cases e with
 | one t =>
  cases t
  case ls k => exact .inl ⟨k, rfl⟩
  all_goals exact .inr rfl
 | st ts => exact .inr (fieldsA_ok ts x h.1)
def ConC (I : Inn) (σ : Nat → Value) : Con → List Value → Prop
 | .box a, cs => cs = enc σ a
 | .arr e l, cs => RowsC I e l cs
theorem getC_cells {I : Inn} {σ : Nat → Value} {c : Con} {p : List Nat} {x : A} {d : Nat} {cs : List Value} (hg : getC c p = some x) (ho : offC c p = some d) (hc : ConC I σ c cs) :
  (∃ k l w u v, x = .lst (.one (.i k)) l ∧ I k l w ∧ cs = u ++ [w] ++ v ∧ u.length = d) ∨
  ((okA x = true ∨ ∃ a, c = .box a ∧ getA a p = some x) ∧ ∃ u v, cs = u ++ enc σ x ++ v ∧ u.length = d ∧ ∀ y c', setC c p y = some c' → ConC I σ c' (u ++ enc σ y ++ v) ∧ sz y = sz x) := by
 cases c with
 | box a =>
  obtain ⟨u, v, h1, h2, h3⟩ := getA_enc σ p a x d hg ho
  refine .inr ⟨.inr ⟨a, rfl, hg⟩, u, v, hc.trans h1, h2, fun y c' hs => ?_⟩
  simp only [setC] at hs
  split at hs
  ·rename_i a' ha'
   obtain rfl := Option.some.inj hs
   exact ⟨(h3 y a' ha').1.symm, (h3 y a' ha').2.1⟩
  ·cases hs
 | arr e l =>
  cases p with
  | nil => cases hg
  | cons i p =>
   simp only [getC] at hg
   simp only [offC] at ho
   split at ho
   ·rename_i hi
    cases hd : offA (e.toA (l.getD i e.dflt)) p with
    | none => rw [hd] at ho; cases ho
    | some d' =>
     rw [hd] at ho
     obtain rfl := Option.some.inj ho
     obtain ⟨a, ce, b, rfl, ha, hce, hset⟩ := RowsC.get hc i hi
     have hok := ElC.ok hce
     rcases ElC.isEnc σ hce with ⟨k, rfl⟩ | rfl
     ·left
      have : p = [] := by
       cases p with
       | nil => rfl
       | cons _ _ => cases hg
      subst this
      rw [getA_nil] at hg
      obtain rfl := Option.some.inj hg
      rw [offA_nil] at hd
      obtain rfl := Option.some.inj hd
      obtain ⟨w, rfl, hw⟩ := hce
      exact ⟨k, _, w, a, b, rfl, hw, rfl, by rw [ha, Nat.add_zero]⟩
     ·rcases hok with ⟨k, rfl⟩ | hok
      ·left
       have : p = [] := by
        cases p with
        | nil => rfl
        | cons _ _ => cases hg
       subst this
       rw [getA_nil] at hg
       obtain rfl := Option.some.inj hg
       rw [offA_nil] at hd
       obtain rfl := Option.some.inj hd
       obtain ⟨w, hw0, hw⟩ := hce
       exact ⟨k, _, w, a, b, rfl, hw, by rw [← hw0], by rw [ha, Nat.add_zero]⟩
      right
      obtain ⟨u, v, h1, h2, h3⟩ := getA_enc σ p _ x d' hg hd
      refine ⟨.inl (getA_ok p _ _ hok hg), a ++ u, v ++ b, by rw [h1]; simp, by rw [List.length_append, ha, h2], fun y c' hs => ?_⟩
      simp only [setC] at hs
      split at hs
      ·rename_i a' ha'
       split at hs
       ·rename_i z hz
        obtain rfl := Option.some.inj hs
        obtain ⟨h4, h5, _⟩ := h3 y a' ha'
        refine ⟨?_, h5⟩
        have := hset z _ (ElC.ofA (I := I) σ hz)
        rw [h4] at this
        show RowsC I e _ _
        simpa using this
       ·cases hs
      ·cases hs
   ·cases ho
theorem setC_off {c c' : Con} {p : List Nat} {x : A} (h : setC c p x = some c') : ∀ q, offC c' q = offC c q := by
 intro q
 cases c with
 | box a =>
  simp only [setC] at h
  split at h
  ·rename_i a' ha'
   obtain rfl := Option.some.inj h
   exact compat_off q _ _ (setA_compat _ _ _ _ ha')
  ·cases h
 | arr e l =>
  cases p with
  | nil => cases h
  | cons i p =>
   simp only [setC] at h
   split at h
   ·rename_i a' ha'
    split at h
    ·rename_i z hz
     obtain rfl := Option.some.inj h
     cases q with
     | nil => rfl
     | cons j q =>
      simp only [offC, List.length_set]
      by_cases hj : j < l.length
      ·rw [if_pos hj, if_pos hj]
       by_cases hij : i = j
       ·subst hij
        have hza : e.toA z = a' := by
         cases e with
         | one t => exact (RT.ofA_eq (t := t) hz).1.symm
         | st ts =>
          cases a' with
          | rc fs => exact congrArg A.rc (fieldsOf_eq ts fs z hz).1.symm
          | _ => cases hz
        have : (l.set i z).getD i e.dflt = z := by simp [List.getD, hj]
        rw [this, hza, compat_off q _ _ (setA_compat _ _ _ _ ha')]
       ·have : (l.set i z).getD j e.dflt = l.getD j e.dflt := by simp [List.getD, hij]
        rw [this]
      ·rw [if_neg hj, if_neg hj]
    ·cases h
   ·cases h
end Go.RR
