/- Plain facts of rows with the fewest stones, and of how many rows there are: tables by lengths. No condition. -/
import Derived.Test.YtbmaolhjplapoaaGreatDoorRy
set_option linter.unusedVariables false
set_option linter.unusedSimpArgs false
namespace Go.RR
open Go
theorem fold_min (p : Int → Prop) [DecidablePred p] (g : Int → Int) : ∀ (l : List Int) (x : Int),
  let r := l.foldl (fun x n => if p n then min x (g n) else x) x
  r ≤ x ∧ (∀ n ∈ l, p n → r ≤ g n) ∧ (r = x ∨ ∃ n ∈ l, p n ∧ r = g n)
 | [], x => ⟨Int.le_refl _, fun _ h => (by cases h), .inl rfl⟩
 | a :: l, x => by
  dsimp only [List.foldl_cons]
  by_cases h : p a
  ·rw [if_pos h]
   obtain ⟨h1, h2, h3⟩ := fold_min p g l (min x (g a))
   refine ⟨by omega, fun n hn hp => ?_, ?_⟩
   ·rcases List.mem_cons.1 hn with rfl | hn
    ·omega
    ·exact h2 n hn hp
   ·rcases h3 with h3 | ⟨n, hn, hp, h3⟩
    ·by_cases hx : x ≤ g a
     ·left; rw [h3]; omega
     ·right; exact ⟨a, by simp, h, by rw [h3]; omega⟩
    ·right; exact ⟨n, by simp [hn], hp, h3⟩
  ·rw [if_neg h]
   obtain ⟨h1, h2, h3⟩ := fold_min p g l x
   refine ⟨h1, fun n hn hp => ?_, ?_⟩
   ·rcases List.mem_cons.1 hn with rfl | hn
    ·exact absurd hp h
    ·exact h2 n hn hp
   ·rcases h3 with h3 | ⟨n, hn, hp, h3⟩
    ·exact .inl h3
    ·exact .inr ⟨n, by simp [hn], hp, h3⟩
def stv (T : List Int) (s : Int) (t : Nat) (x n : Int) : Int := if n + s ≤ (t : Int) then min x (T.getD ((t : Int) - n - s).toNat 0 + 1) else x
def tabF (z : List Int) (s : Int) : Nat → List Int
 | 0 => [0]
 | t + 1 => tabF z s t ++ [z.foldl (stv (tabF z s t) s (t + 1)) 61]
theorem tabF_len (z : List Int) (s : Int) : ∀ t, (tabF z s t).length = t + 1
 | 0 => rfl
 | t + 1 => by simp [tabF, tabF_len z s t]
def few (z : List Int) (s : Int) (t : Nat) : Int := (tabF z s t).getD t 0
theorem tabF_get (z : List Int) (s : Int) : ∀ t j, j ≤ t → (tabF z s t).getD j 0 = few z s j
 | 0, j, h => by
  obtain rfl : j = 0 := by omega
  rfl
 | t + 1, j, h => by
  by_cases hj : j = t + 1
  ·subst hj; rfl
  ·rw [← tabF_get z s t j (by omega)]
   simp only [tabF, List.getD_eq_getElem?_getD]
   rw [List.getElem?_append_left (by rw [tabF_len]; omega)]
theorem few_zero (z : List Int) (s : Int) : few z s 0 = 0 := rfl
def SizesOK (z : List Int) : Prop := ∀ n ∈ z, 1 ≤ n
theorem few_step {z : List Int} {s : Int} (hz : SizesOK z) (hs : 0 ≤ s) (t : Nat) (ht : 0 < t) :
  few z s t = z.foldl (fun x n => if n + s ≤ (t : Int) then min x (few z s ((t : Int) - n - s).toNat + 1) else x) 61 := by
 obtain ⟨t, rfl⟩ : ∃ u, t = u + 1 := ⟨t - 1, by omega⟩
 have h1 : few z s (t + 1) = z.foldl (stv (tabF z s t) s (t + 1)) 61 := by
  unfold few
  rw [show tabF z s (t + 1) = tabF z s t ++ [z.foldl (stv (tabF z s t) s (t + 1)) 61] from rfl, List.getD_eq_getElem?_getD, List.getElem?_append_right (by rw [tabF_len]; omega), tabF_len]
  simp
 rw [h1]
 have key : ∀ (l : List Int), (∀ n ∈ l, 1 ≤ n) → ∀ x, l.foldl (stv (tabF z s t) s (t + 1)) x = l.foldl (fun x n => if n + s ≤ ((t + 1 : Nat) : Int) then min x (few z s (((t + 1 : Nat) : Int) - n - s).toNat + 1) else x) x := by
  intro l
  induction l with
  | nil => intros; rfl
  | cons a l ih =>
   intro hl x
   rw [List.foldl_cons, List.foldl_cons, ih (fun n hn => hl n (by simp [hn]))]
   congr 1
   unfold stv
   have ha := hl a (by simp)
   by_cases hc : a + s ≤ ((t + 1 : Nat) : Int)
   ·rw [if_pos hc, if_pos hc, tabF_get z s t _ (by omega)]
   ·rw [if_neg hc, if_neg hc]
 exact key z hz 61
theorem few_facts {z : List Int} {s : Int} (hz : SizesOK z) (hs : 0 ≤ s) (t : Nat) (ht : 0 < t) :
  few z s t ≤ 61 ∧ (∀ n ∈ z, n + s ≤ (t : Int) → few z s t ≤ few z s ((t : Int) - n - s).toNat + 1) ∧ (few z s t = 61 ∨ ∃ n ∈ z, n + s ≤ (t : Int) ∧ few z s t = few z s ((t : Int) - n - s).toNat + 1) := by
 have := fold_min (fun n => n + s ≤ (t : Int)) (fun n => few z s ((t : Int) - n - s).toNat + 1) z 61
 rw [← few_step hz hs t ht] at this
 exact this
theorem few_nonneg {z : List Int} {s : Int} (hz : SizesOK z) (hs : 0 ≤ s) : ∀ (m t : Nat), t < m → 0 ≤ few z s t ∧ few z s t ≤ 61 ∧ (0 < t → 1 ≤ few z s t)
 | 0, _, h => absurd h (by omega)
 | m + 1, t, h => by
  by_cases ht : t = 0
  ·subst ht; rw [few_zero]; omega
  ·obtain ⟨h1, h2, h3⟩ := few_facts hz hs t (by omega)
   have : 1 ≤ few z s t := by
    rcases h3 with h3 | ⟨n, hn, hle, h3⟩
    ·omega
    ·have := hz n hn
     have := (few_nonneg hz hs m ((t : Int) - n - s).toNat (by omega)).1
     omega
   omega
theorem few_rng {z : List Int} {s : Int} (hz : SizesOK z) (hs : 0 ≤ s) (t : Nat) : 0 ≤ few z s t ∧ few z s t ≤ 61 ∧ (0 < t → 1 ≤ few z s t) := few_nonneg hz hs (t + 1) t (by omega)
def goodF (z : List Int) (s : Int) (t : Nat) (n : Int) : Bool := decide (n + s ≤ (t : Int)) && (few z s ((t : Int) - n - s).toNat == few z s t - 1)
def pickI (z : List Int) (s : Int) (t : Nat) : Nat := z.findIdx (goodF z s t)
def pickN (z : List Int) (s : Int) (t : Nat) : Int := z.getD (pickI z s t) 0
theorem pickF_ok {z : List Int} {s : Int} (hz : SizesOK z) (hs : 0 ≤ s) {t : Nat} (ht : 0 < t) (h6 : few z s t ≤ 60) :
  pickI z s t < z.length ∧ pickN z s t ∈ z ∧ pickN z s t + s ≤ (t : Int) ∧ few z s ((t : Int) - pickN z s t - s).toNat = few z s t - 1 := by
 obtain ⟨h1, h2, h3⟩ := few_facts hz hs t ht
 rcases h3 with h3 | ⟨n, hn, hle, h3⟩
 ·omega
 ·have hl : pickI z s t < z.length := List.findIdx_lt_length_of_exists ⟨n, hn, by simp [goodF, hle]; omega⟩
  have hg : goodF z s t (z[pickI z s t]) = true := List.findIdx_getElem (w := hl)
  have e : pickN z s t = z[pickI z s t] := by simp [pickN, hl]
  rw [← e] at hg
  simp only [goodF, Bool.and_eq_true, decide_eq_true_eq, beq_iff_eq] at hg
  exact ⟨hl, by rw [e]; exact List.getElem_mem _, hg.1, hg.2⟩
def buildF (z : List Int) (s : Int) : Nat → Nat → List Int
 | 0, _ => []
 | k + 1, t => pickN z s t :: buildF z s k ((t : Int) - pickN z s t - s).toNat
theorem build_ok {z : List Int} {s : Int} (hz : SizesOK z) (hs : 0 ≤ s) : ∀ (k t : Nat), few z s t = (k : Int) → k ≤ 60 → (buildF z s k t).length = k ∧ (∀ n ∈ buildF z s k t, n ∈ z) ∧ ((buildF z s k t).map (· + s)).sum = (t : Int)
 | 0, t, h, _ => by
  have := (few_rng hz hs t).2.2
  obtain rfl : t = 0 := by
   rcases Nat.eq_zero_or_pos t with h0 | h0
   ·exact h0
   ·have := this h0; omega
  exact ⟨rfl, fun _ h => (by cases h), rfl⟩
 | k + 1, t, h, hk => by
  have ht : 0 < t := by
   rcases Nat.eq_zero_or_pos t with h0 | h0
   ·subst h0; rw [few_zero] at h; omega
   ·exact h0
  obtain ⟨h1, h2, h3, h4⟩ := pickF_ok hz hs ht (by omega)
  obtain ⟨i1, i2, i3⟩ := build_ok hz hs k ((t : Int) - pickN z s t - s).toNat (by omega) (by omega)
  refine ⟨by simp [buildF, i1], fun n hn => ?_, ?_⟩
  ·rcases List.mem_cons.1 hn with rfl | hn
   ·exact h2
   ·exact i2 n hn
  ·simp only [buildF, List.map_cons, List.sum_cons, i3]
   omega
theorem few_le {z : List Int} {s : Int} (hz : SizesOK z) (hs : 0 ≤ s) : ∀ (r : List Int) (t : Nat), (∀ n ∈ r, n ∈ z) → (r.map (· + s)).sum = (t : Int) → few z s t ≤ (r.length : Int)
 | [], t, _, h => by
  simp at h
  obtain rfl : t = 0 := by omega
  simp [few_zero]
 | a :: r, t, hm, h => by
  rw [List.map_cons, List.sum_cons] at h
  have ha := hm a (by simp)
  have h1 := hz a ha
  have hn : 0 ≤ (r.map (· + s)).sum := by
   have : ∀ (l : List Int), (∀ n ∈ l, n ∈ z) → 0 ≤ (l.map (· + s)).sum := by
    intro l
    induction l with
    | nil => intro _; simp
    | cons b l ih =>
     intro hl
     have := hz b (hl b (by simp))
     have := ih fun n hn => hl n (by simp [hn])
     simp only [List.map_cons, List.sum_cons]
     omega
   exact this r fun n hn => hm n (by simp [hn])
  have ht : 0 < t := by omega
  have ih := few_le hz hs r ((t : Int) - a - s).toNat (fun n hn => hm n (by simp [hn])) (by omega)
  have := (few_facts hz hs t ht).2.1 a ha (by omega)
  simp only [List.length_cons]
  omega
def MST : Int := 1000000000
def cnt (z : List Int) (s : Int) : Nat → Nat → Int
 | 0, t => if t = 0 then 1 else 0
 | k + 1, t => min ((z.map fun n => if n + s ≤ (t : Int) then cnt z s k ((t : Int) - n - s).toNat else 0).sum) MST
theorem sum_nonneg {l : List Int} (h : ∀ x ∈ l, 0 ≤ x) : 0 ≤ l.sum := by
 induction l with
 | nil => simp
 | cons a l ih =>
  have := h a (by simp)
  have := ih fun x hx => h x (by simp [hx])
  rw [List.sum_cons]; omega
theorem sum_ge {l : List Int} (h : ∀ x ∈ l, 0 ≤ x) {a : Int} (ha : a ∈ l) : a ≤ l.sum := by
 induction l with
 | nil => cases ha
 | cons b l ih =>
  have := h b (by simp)
  have h2 : ∀ x ∈ l, 0 ≤ x := fun x hx => h x (by simp [hx])
  have := sum_nonneg h2
  rw [List.sum_cons]
  rcases List.mem_cons.1 ha with rfl | ha
  ·omega
  ·have := ih h2 ha; omega
theorem sum_pos {l : List Int} (h : ∀ x ∈ l, 0 ≤ x) (hp : 0 < l.sum) : ∃ a ∈ l, 0 < a := by
 induction l with
 | nil => simp at hp
 | cons b l ih =>
  have h2 : ∀ x ∈ l, 0 ≤ x := fun x hx => h x (by simp [hx])
  rw [List.sum_cons] at hp
  by_cases hb : 0 < b
  ·exact ⟨b, by simp, hb⟩
  ·obtain ⟨a, ha, hp⟩ := ih h2 (by omega)
   exact ⟨a, by simp [ha], hp⟩
theorem cnt_rng (z : List Int) (s : Int) : ∀ k t, 0 ≤ cnt z s k t ∧ cnt z s k t ≤ MST
 | 0, t => by unfold cnt MST; split <;> omega
 | k + 1, t => by
  have : 0 ≤ (z.map fun n => if n + s ≤ (t : Int) then cnt z s k ((t : Int) - n - s).toNat else 0).sum := by
   refine sum_nonneg fun x hx => ?_
   obtain ⟨n, _, rfl⟩ := List.mem_map.1 hx
   split
   ·exact (cnt_rng z s k _).1
   ·omega
  unfold cnt MST
  omega
theorem cnt_sum_nonneg (z : List Int) (s : Int) (k t : Nat) : ∀ x ∈ (z.map fun n => if n + s ≤ (t : Int) then cnt z s k ((t : Int) - n - s).toNat else 0), 0 ≤ x := by
 intro x hx
 obtain ⟨n, _, rfl⟩ := List.mem_map.1 hx
 split
 ·exact (cnt_rng z s k _).1
 ·omega
theorem few_of_cnt {z : List Int} {s : Int} (hz : SizesOK z) (hs : 0 ≤ s) : ∀ (k t : Nat), 0 < cnt z s k t → few z s t ≤ (k : Int)
 | 0, t, h => by
  unfold cnt at h
  split at h
  ·rename_i h0; subst h0; simp [few_zero]
  ·omega
 | k + 1, t, h => by
  have h' : 0 < (z.map fun n => if n + s ≤ (t : Int) then cnt z s k ((t : Int) - n - s).toNat else 0).sum := by
   unfold cnt MST at h; omega
  obtain ⟨a, ha, hp⟩ := sum_pos (cnt_sum_nonneg z s k t) h'
  obtain ⟨n, hn, rfl⟩ := List.mem_map.1 ha
  split at hp
  ·rename_i hle
   have := few_of_cnt hz hs k _ hp
   have h1 := hz n hn
   have := (few_facts hz hs t (by omega)).2.1 n hn hle
   omega
  ·omega
theorem cnt_of_few {z : List Int} {s : Int} (hz : SizesOK z) (hs : 0 ≤ s) : ∀ (k t : Nat), few z s t = (k : Int) → k ≤ 60 → 0 < cnt z s k t
 | 0, t, h, _ => by
  have := (few_rng hz hs t).2.2
  obtain rfl : t = 0 := by
   rcases Nat.eq_zero_or_pos t with h0 | h0
   ·exact h0
   ·have := this h0; omega
  simp [cnt]
 | k + 1, t, h, hk => by
  have ht : 0 < t := by
   rcases Nat.eq_zero_or_pos t with h0 | h0
   ·subst h0; rw [few_zero] at h; omega
   ·exact h0
  obtain ⟨h1, h2, h3, h4⟩ := pickF_ok hz hs ht (by omega)
  have ih := cnt_of_few hz hs k ((t : Int) - pickN z s t - s).toNat (by omega) (by omega)
  have := sum_ge (cnt_sum_nonneg z s k t) (List.mem_map.2 ⟨_, h2, rfl⟩)
  rw [if_pos h3] at this
  unfold cnt MST
  omega
def totC (z : List Int) (s : Int) (t : Nat) : Nat → Int
 | 0 => 0
 | k + 1 => min (totC z s t k + cnt z s (k + 1) t) MST
theorem tot_rng (z : List Int) (s : Int) (t : Nat) : ∀ k, 0 ≤ totC z s t k ∧ totC z s t k ≤ MST
 | 0 => by unfold totC MST; omega
 | k + 1 => by
  have h1 := tot_rng z s t k
  have h2 := cnt_rng z s (k + 1) t
  show 0 ≤ min (totC z s t k + cnt z s (k + 1) t) MST ∧ min (totC z s t k + cnt z s (k + 1) t) MST ≤ MST
  unfold MST at *
  omega
theorem tot_pos {z : List Int} {s : Int} {t : Nat} : ∀ k, 0 < totC z s t k ↔ ∃ j, j < k ∧ 0 < cnt z s (j + 1) t
 | 0 => by simp [totC]
 | k + 1 => by
  have h1 := tot_rng z s t k
  have h2 := cnt_rng z s (k + 1) t
  show 0 < min (totC z s t k + cnt z s (k + 1) t) MST ↔ _
  unfold MST at *
  have ih := tot_pos (z := z) (s := s) (t := t) k
  constructor
  ·intro h
   by_cases h0 : 0 < totC z s t k
   ·obtain ⟨j, hj, hp⟩ := ih.1 h0
    exact ⟨j, by omega, hp⟩
   ·refine ⟨k, by omega, ?_⟩
    omega
  ·rintro ⟨j, hj, hp⟩
   by_cases hk : j = k
   ·subst hk
    omega
   ·have := ih.2 ⟨j, by omega, hp⟩
    omega
theorem tot_few {z : List Int} {s : Int} (hz : SizesOK z) (hs : 0 ≤ s) {t : Nat} (ht : 0 < t) : 0 < totC z s t 60 ↔ few z s t ≤ 60 := by
 rw [tot_pos]
 constructor
 ·rintro ⟨j, hj, hp⟩
  have := few_of_cnt hz hs _ _ hp
  omega
 ·intro h
  have h1 := (few_rng hz hs t).2.2 ht
  refine ⟨(few z s t).toNat - 1, by omega, ?_⟩
  have := cnt_of_few hz hs (few z s t).toNat t (by omega) (by omega)
  rwa [show (few z s t).toNat - 1 + 1 = (few z s t).toNat by omega]
end Go.RR
namespace Go.RR
open Go
def tbl (n : Nat) (f : Nat → Int) : List Int := (List.range n).map f
theorem tbl_len (n : Nat) (f : Nat → Int) : (tbl n f).length = n := by simp [tbl]
theorem tbl_get {n i : Nat} (f : Nat → Int) (h : i < n) : (tbl n f).getD i 0 = f i := by
 simp [tbl, List.getD_eq_getElem?_getD, h]
theorem tbl_set {n i : Nat} (f : Nat → Int) (v : Int) : (tbl n f).set i v = tbl n (fun j => if j = i then v else f j) := by
 apply List.ext_getElem?
 intro j
 simp only [tbl, List.getElem?_set, List.length_map, List.length_range, List.getElem?_map]
 by_cases hj : i = j
 ·subst hj
  by_cases hi : i < n
  ·simp [hi]
  ·simp [hi]
 ·by_cases hl : j < n
  ·simp [hj, hl, Ne.symm hj]
  ·simp [hj, hl]
theorem tbl_congr {n : Nat} {f g : Nat → Int} (h : ∀ i, i < n → f i = g i) : tbl n f = tbl n g := by
 apply List.map_congr_left
 intro i hi
 exact h i (List.mem_range.1 hi)
theorem tbl_replicate (n : Nat) (x : Int) : List.replicate n x = tbl n (fun _ => x) := by
 apply List.ext_getElem?
 intro j
 by_cases hj : j < n <;> simp [tbl, hj, List.getElem?_replicate]
theorem sum_add (l : List Int) (f g : Int → Int) : (l.map f).sum + (l.map g).sum = (l.map fun n => f n + g n).sum := by
 induction l with
 | nil => rfl
 | cons a l ih => simp only [List.map_cons, List.sum_cons]; omega
def pushG (z : List Int) (s : Int) (c : Nat → Int) : Nat → Nat → Int
 | 0, _ => 0
 | a + 1, t => pushG z s c a t + (z.map fun n => if (a : Int) + n + s = (t : Int) then c a else 0).sum
theorem pushG_eq (z : List Int) (s : Int) (c : Nat → Int) (t : Nat) : ∀ a, pushG z s c a t = (z.map fun n => if n + s ≤ (t : Int) ∧ ((t : Int) - n - s).toNat < a then c ((t : Int) - n - s).toNat else 0).sum
 | 0 => by
  have : ∀ l : List Int, (l.map fun n => if n + s ≤ (t : Int) ∧ ((t : Int) - n - s).toNat < 0 then c ((t : Int) - n - s).toNat else 0).sum = 0 := by
   intro l
   induction l with
   | nil => rfl
   | cons b l ih => rw [List.map_cons, List.sum_cons, ih, if_neg (by omega)]; rfl
  rw [this]; rfl
 | a + 1 => by
  unfold pushG
  rw [pushG_eq z s c t a, sum_add]
  congr 1
  apply List.map_congr_left
  intro n _
  by_cases h1 : (a : Int) + n + s = (t : Int)
  ·have h2 : ((t : Int) - n - s).toNat = a := by omega
   rw [if_pos h1, if_neg (by omega), if_pos (by omega), h2]; omega
  ·rw [if_neg h1]
   by_cases h2 : n + s ≤ (t : Int) ∧ ((t : Int) - n - s).toNat < a
   ·rw [if_pos h2, if_pos (by omega)]; omega
   ·rw [if_neg h2, if_neg (by omega)]; omega
theorem pushG_nonneg (z : List Int) (s : Int) {c : Nat → Int} (hc : ∀ a, 0 ≤ c a) (t : Nat) : ∀ a, 0 ≤ pushG z s c a t
 | 0 => Int.le_refl _
 | a + 1 => by
  have := pushG_nonneg z s hc t a
  have : 0 ≤ (z.map fun n => if (a : Int) + n + s = (t : Int) then c a else 0).sum := by
   refine sum_nonneg fun x hx => ?_
   obtain ⟨n, _, rfl⟩ := List.mem_map.1 hx
   have := hc a
   split <;> omega
  unfold pushG; omega
theorem pushG_cnt (z : List Int) (s : Int) (k : Nat) {t m : Nat} (h : t < m) (hz : SizesOK z) (hs : 0 ≤ s) : min (pushG z s (cnt z s k) m t) MST = cnt z s (k + 1) t := by
 rw [pushG_eq, cnt]
 congr 2
 apply List.map_congr_left
 intro n hn
 have := hz n hn
 by_cases h2 : n + s ≤ (t : Int)
 ·rw [if_pos (by omega), if_pos h2]
 ·rw [if_neg (by omega), if_neg h2]
theorem pull_all (p : Int → Prop) [DecidablePred p] (g : Int → Int) (hg : ∀ n, 0 ≤ g n) : ∀ (z : List Int) (x X : Int), x = min X MST → 0 ≤ X →
  z.foldl (fun x n => if p n then min (x + g n) MST else x) x = min (X + (z.map fun n => if p n then g n else 0).sum) MST
 | [], x, X, h, _ => by simpa using h
 | n :: z, x, X, h, hX => by
  have := hg n
  rw [List.foldl_cons, pull_all p g hg z _ (X + if p n then g n else 0)]
  ·congr 1
   rw [List.map_cons, List.sum_cons]; omega
  ·split
   ·rw [h]; unfold MST; omega
   ·rw [h]; congr 1; omega
  ·split <;> omega
def evenW (S k i : Nat) : Int := ((S / k + if i < S % k then 1 else 0 : Nat) : Int)
def evenL (S k : Nat) : List Int := tbl k (evenW S k)
theorem even_len (S k : Nat) : (evenL S k).length = k := tbl_len _ _
theorem sum_tbl_succ (m : Nat) (f : Nat → Int) : (tbl (m + 1) f).sum = (tbl m f).sum + f m := by
 simp [tbl, List.range_succ]
theorem even_part (S k : Nat) : ∀ m, (tbl m (evenW S k)).sum = ((m * (S / k) + min m (S % k) : Nat) : Int)
 | 0 => by simp [tbl]
 | m + 1 => by
  rw [sum_tbl_succ, even_part S k m]
  unfold evenW
  rw [Nat.succ_mul]
  split <;> omega
theorem even_sum {S k : Nat} (hk : 0 < k) : (evenL S k).sum = (S : Int) := by
 unfold evenL
 rw [even_part]
 have h1 := Nat.mod_lt S hk
 have h2 := Nat.div_add_mod S k
 rw [Nat.min_eq_right (Nat.le_of_lt h1), h2]
end Go.RR
