/- Plain facts of fields: cells, neighbours, a field by rounds; what belongs to a field. No condition. -/
import Derived.Test.YtbmaolhjplapoaaGreatDoorRy
import Derived.Test.YtbmaolhjplapoaaGreatDoorFb
set_option linter.unusedVariables false
set_option linter.unusedSimpArgs false
namespace Go.RR
open Go
def isC (w h k : Nat) : Prop := k % 12 < w ∧ k / 12 < h
instance (w h k : Nat) : Decidable (isC w h k) := by unfold isC; infer_instance
def nb (w h k : Nat) : List Nat := (if 0 < k / 12 then [k - 12] else []) ++ ((if 0 < k % 12 then [k - 1] else []) ++ ((if k % 12 + 1 < w then [k + 1] else []) ++ (if k / 12 + 1 < h then [k + 12] else [])))
theorem nb_mem {w h k n : Nat} : n ∈ nb w h k ↔ (0 < k / 12 ∧ n = k - 12) ∨ (0 < k % 12 ∧ n = k - 1) ∨ (k % 12 + 1 < w ∧ n = k + 1) ∨ (k / 12 + 1 < h ∧ n = k + 12) := by
 unfold nb
 simp only [List.mem_append]
 have e : ∀ (p : Prop) [Decidable p] (m : Nat), n ∈ (if p then [m] else []) ↔ p ∧ n = m := fun p _ m => by
  by_cases hp : p <;> simp [hp]
 rw [e, e, e, e]
theorem nb_cell {w h k n : Nat} (hw : w ≤ 12) (hc : isC w h k) (hn : n ∈ nb w h k) : isC w h n := by
 unfold isC at *
 rcases nb_mem.1 hn with ⟨h1, rfl⟩ | ⟨h1, rfl⟩ | ⟨h1, rfl⟩ | ⟨h1, rfl⟩ <;> omega
theorem nb_sym {w h k n : Nat} (hw : w ≤ 12) (hc : isC w h k) (hn : n ∈ nb w h k) : k ∈ nb w h n := by
 unfold isC at *
 rw [nb_mem]
 rcases nb_mem.1 hn with ⟨h1, rfl⟩ | ⟨h1, rfl⟩ | ⟨h1, rfl⟩ | ⟨h1, rfl⟩ <;> omega
theorem isC_lt {w h k : Nat} (hh : h ≤ 12) (hc : isC w h k) : k < 144 := by unfold isC at hc; omega
theorem nb_len (w h k : Nat) : (nb w h k).length ≤ 4 := by
 unfold nb
 simp only [List.length_append]
 have e : ∀ (p : Prop) [Decidable p] (m : Nat), (if p then [m] else []).length ≤ 1 := fun p _ m => by by_cases hp : p <;> simp [hp]
 have h1 := e (0 < k / 12) (k - 12)
 have h2 := e (0 < k % 12) (k - 1)
 have h3 := e (k % 12 + 1 < w) (k + 1)
 have h4 := e (k / 12 + 1 < h) (k + 12)
 omega
theorem nodup_lenN {l : List Nat} {N : Nat} (hn : l.Nodup) (h : ∀ x ∈ l, x < N) : l.length ≤ N := by
 have h2 : ((List.range N).filter fun x => l.contains x).Nodup := (List.filter_sublist).nodup List.nodup_range
 have hp : l.Perm ((List.range N).filter fun x => l.contains x) := (List.perm_ext_iff_of_nodup hn h2).2 fun a => by
  rw [List.mem_filter, List.mem_range]
  exact ⟨fun ha => ⟨h a ha, by simpa using ha⟩, fun ha => by simpa using ha.2⟩
 have := hp.length_eq
 have h3 := List.length_filter_le (fun x => l.contains x) (List.range N)
 rw [List.length_range] at h3
 omega
def listed (p : Nat → Bool) : List Nat := (List.range 144).filter p
theorem listed_mem {p : Nat → Bool} {k : Nat} : k ∈ listed p ↔ k < 144 ∧ p k = true := by
 unfold listed
 rw [List.mem_filter, List.mem_range]
theorem listed_nodup (p : Nat → Bool) : (listed p).Nodup := (List.filter_sublist).nodup List.nodup_range
def cst (l : List Nat) : List Int := l.map fun n : Nat => (n : Int)
theorem cst_mem {l : List Nat} {x : Int} : x ∈ cst l ↔ ∃ n ∈ l, x = (n : Int) := by
 unfold cst
 rw [List.mem_map]
 exact ⟨fun ⟨n, h1, h2⟩ => ⟨n, h1, h2.symm⟩, fun ⟨n, h1, h2⟩ => ⟨n, h1, h2.symm⟩⟩
theorem sort_listed {q : List Nat} (hn : q.Nodup) (h : ∀ x ∈ q, x < 144) : (cst q).mergeSort (fun x y => decide (x ≤ y)) = cst (listed fun k => q.contains k) := by
 have hp : q.Perm (listed fun k => q.contains k) := (List.perm_ext_iff_of_nodup hn (listed_nodup _)).2 fun a => by
  rw [listed_mem]
  exact ⟨fun ha => ⟨h a ha, by simpa using ha⟩, fun ha => by simpa using ha.2⟩
 refine List.Perm.eq_of_pairwise (le := fun a b : Int => a ≤ b) (fun a b _ _ h1 h2 => Int.le_antisymm h1 h2) ?_ ?_ ((List.mergeSort_perm _ _).trans (hp.map _))
 ·have := List.pairwise_mergeSort (le := fun x y : Int => decide (x ≤ y)) (fun a b c h1 h2 => by
   simp only [decide_eq_true_eq] at *; omega) (fun a b => by
   by_cases hab : a ≤ b
   ·simp [hab]
   ·simp [show b ≤ a by omega]) (cst q)
  exact this.imp fun h => by simpa using h
 ·unfold cst listed
  rw [List.pairwise_map]
  exact (List.pairwise_lt_range.sublist List.filter_sublist).imp fun h => by omega
def adF (f : Nat → Int) (c : Int) (q : List Nat) (n : Nat) : List Nat := cond (f n == c) (cond (q.contains n) q (q ++ [n])) q
def roundF (w h : Nat) (f : Nat → Int) (c : Int) (q : List Nat) (i : Nat) : List Nat := (nb w h (q.getD i 0)).foldl (adF f c) q
def bfs (w h : Nat) (f : Nat → Int) (c : Int) : Nat → Nat → List Nat → List Nat
 | 0, _, q => q
 | m + 1, i, q => if i < q.length then bfs w h f c m (i + 1) (roundF w h f c q i) else q
structure BQ (w h : Nat) (f : Nat → Int) (s : Nat) (q : List Nat) : Prop where
 nd : q.Nodup
 cell : ∀ x ∈ q, isC w h x
 col : ∀ x ∈ q, f x = f s
 head : q.getD 0 0 = s ∧ 0 < q.length
 par : ∀ m, 0 < m → m < q.length → ∃ m', m' < m ∧ q.getD m 0 ∈ nb w h (q.getD m' 0)
theorem getD_app {q : List Nat} {n m : Nat} (h : m < q.length) : (q ++ [n]).getD m 0 = q.getD m 0 := by
 rw [List.getD_eq_getElem?_getD, List.getElem?_append_left h, ← List.getD_eq_getElem?_getD]
theorem getD_new (q : List Nat) (n : Nat) : (q ++ [n]).getD q.length 0 = n := by
 rw [List.getD_eq_getElem?_getD, List.getElem?_append_right (Nat.le_refl _), Nat.sub_self]; rfl
theorem adF_cases (f : Nat → Int) (c : Int) (q : List Nat) (n : Nat) : (adF f c q n = q ∧ (f n = c → n ∈ q)) ∨ (adF f c q n = q ++ [n] ∧ f n = c ∧ n ∉ q) := by
 unfold adF
 by_cases h : f n = c
 ·rw [show (f n == c) = true by simp [h], cond_true]
  by_cases hq : n ∈ q
  ·left
   rw [show q.contains n = true by simpa using hq]
   exact ⟨rfl, fun _ => hq⟩
  ·right
   rw [show q.contains n = false by simpa using hq]
   exact ⟨rfl, h, hq⟩
 ·left
  rw [show (f n == c) = false by simp [h]]
  exact ⟨rfl, fun h' => absurd h' h⟩
theorem adF_ok {w h : Nat} (hw : w ≤ 12) {f : Nat → Int} {s : Nat} {q : List Nat} {i n : Nat} (hq : BQ w h f s q) (hi : i < q.length) (hn : n ∈ nb w h (q.getD i 0)) :
  BQ w h f s (adF f (f s) q n) ∧ (∃ t, adF f (f s) q n = q ++ t) ∧ (f n = f s → n ∈ adF f (f s) q n) := by
 rcases adF_cases f (f s) q n with ⟨e, h1⟩ | ⟨e, h1, h2⟩
 ·rw [e]; exact ⟨hq, ⟨[], by simp⟩, h1⟩
 ·rw [e]
  have hcell := nb_cell hw (hq.cell _ (getD_mem' (d := 0) hi)) hn
  refine ⟨⟨?_, fun x hx => ?_, fun x hx => ?_, ⟨?_, by simp⟩, fun m h0 hm => ?_⟩, ⟨[n], rfl⟩, fun _ => by simp⟩
  ·exact List.nodup_append.2 ⟨hq.nd, by simp, fun a ha b hb => by rw [List.mem_singleton] at hb; subst hb; exact fun e => h2 (e ▸ ha)⟩
  ·rcases List.mem_append.1 hx with hx | hx
   ·exact hq.cell x hx
   ·rw [List.mem_singleton] at hx; subst hx; exact hcell
  ·rcases List.mem_append.1 hx with hx | hx
   ·exact hq.col x hx
   ·rw [List.mem_singleton] at hx; subst hx; exact h1
  ·rw [getD_app hq.head.2]; exact hq.head.1
  ·rw [List.length_append, List.length_singleton] at hm
   by_cases hm2 : m < q.length
   ·obtain ⟨m', p1, p2⟩ := hq.par m h0 hm2
    exact ⟨m', p1, by rw [getD_app hm2, getD_app (by omega)]; exact p2⟩
   ·obtain rfl : m = q.length := by omega
    exact ⟨i, hi, by rw [getD_new, getD_app hi]; exact hn⟩
theorem fold_ok {w h : Nat} (hw : w ≤ 12) {f : Nat → Int} {s i : Nat} {x : Nat} : ∀ (ns : List Nat) (q : List Nat), BQ w h f s q → i < q.length → q.getD i 0 = x → (∀ n ∈ ns, n ∈ nb w h x) →
  BQ w h f s (ns.foldl (adF f (f s)) q) ∧ (∃ t, ns.foldl (adF f (f s)) q = q ++ t) ∧ ∀ n ∈ ns, f n = f s → n ∈ ns.foldl (adF f (f s)) q
 | [], q, hq, _, _, _ => ⟨hq, ⟨[], by simp⟩, fun n hn => by cases hn⟩
 | a :: ns, q, hq, hi, hx, hns => by
  obtain ⟨h1, ⟨t, ht⟩, h2⟩ := adF_ok hw hq hi (n := a) (by rw [hx]; exact hns a (by simp))
  have hi' : i < (adF f (f s) q a).length := by rw [ht, List.length_append]; omega
  have hx' : (adF f (f s) q a).getD i 0 = x := by
   rw [ht, List.getD_eq_getElem?_getD, List.getElem?_append_left hi, ← List.getD_eq_getElem?_getD]; exact hx
  obtain ⟨k1, ⟨t2, k2⟩, k3⟩ := fold_ok hw ns _ h1 hi' hx' fun n hn => hns n (by simp [hn])
  rw [List.foldl_cons]
  refine ⟨k1, ⟨t ++ t2, by rw [k2, ht, List.append_assoc]⟩, fun n hn hf => ?_⟩
  rcases List.mem_cons.1 hn with rfl | hn
  ·rw [k2]; exact List.mem_append.2 (.inl (h2 hf))
  ·exact k3 n hn hf
def Closed (w h : Nat) (f : Nat → Int) (s : Nat) (q : List Nat) (i : Nat) : Prop := ∀ m, m < i → m < q.length → ∀ n ∈ nb w h (q.getD m 0), f n = f s → n ∈ q
theorem round_ok {w h : Nat} (hw : w ≤ 12) {f : Nat → Int} {s i : Nat} {q : List Nat} (hq : BQ w h f s q) (hi : i < q.length) (hc : Closed w h f s q i) :
  BQ w h f s (roundF w h f (f s) q i) ∧ Closed w h f s (roundF w h f (f s) q i) (i + 1) ∧ q.length ≤ (roundF w h f (f s) q i).length := by
 obtain ⟨h1, ⟨t, ht⟩, h3⟩ := fold_ok hw (nb w h (q.getD i 0)) q hq hi rfl fun n hn => hn
 unfold roundF
 refine ⟨h1, fun m hm hml n hn hf => ?_, by rw [ht, List.length_append]; omega⟩
 have hmq : m < q.length := by omega
 have e : ((nb w h (q.getD i 0)).foldl (adF f (f s)) q).getD m 0 = q.getD m 0 := by
  rw [ht, List.getD_eq_getElem?_getD, List.getElem?_append_left hmq, ← List.getD_eq_getElem?_getD]
 rw [e] at hn
 by_cases hmi : m = i
 ·subst hmi; exact h3 n hn hf
 ·rw [ht]; exact List.mem_append.2 (.inl (hc m (by omega) hmq n hn hf))
theorem bfs_ok {w h : Nat} (hw : w ≤ 12) (hh : h ≤ 12) {f : Nat → Int} {s : Nat} : ∀ (m i : Nat) (q : List Nat), BQ w h f s q → i ≤ q.length → 144 < i + m → Closed w h f s q i →
  BQ w h f s (bfs w h f (f s) m i q) ∧ Closed w h f s (bfs w h f (f s) m i q) (bfs w h f (f s) m i q).length
 | 0, i, q, hq, hi, hm, hc => by
  have := nodup_lenN hq.nd fun x hx => isC_lt hh (hq.cell x hx)
  omega
 | m + 1, i, q, hq, hi, hm, hc => by
  unfold bfs
  by_cases h1 : i < q.length
  ·rw [if_pos h1]
   obtain ⟨k1, k2, k3⟩ := round_ok hw hq h1 hc
   exact bfs_ok hw hh m (i + 1) _ k1 (by omega) (by omega) k2
  ·rw [if_neg h1]
   obtain rfl : i = q.length := by omega
   exact ⟨hq, hc⟩
def comp (w h : Nat) (f : Nat → Int) (s : Nat) : List Nat := bfs w h f (f s) 145 0 [s]
theorem first_ok {w h : Nat} {f : Nat → Int} {s : Nat} (hs : isC w h s) : BQ w h f s [s] :=
 ⟨by simp, fun x hx => by rw [List.mem_singleton] at hx; subst hx; exact hs, fun x hx => by rw [List.mem_singleton] at hx; subst hx; rfl, ⟨rfl, by simp⟩, fun m h0 hm => by rw [List.length_singleton] at hm; omega⟩
theorem comp_ok {w h : Nat} (hw : w ≤ 12) (hh : h ≤ 12) {f : Nat → Int} {s : Nat} (hs : isC w h s) : BQ w h f s (comp w h f s) ∧ ∀ x ∈ comp w h f s, ∀ n ∈ nb w h x, f n = f s → n ∈ comp w h f s := by
 obtain ⟨h1, h2⟩ := bfs_ok hw hh 145 0 [s] (first_ok (f := f) hs) (by simp) (by omega) (fun m hm => by omega)
 refine ⟨h1, fun x hx n hn hf => ?_⟩
 obtain ⟨m, hm, rfl⟩ := List.getElem_of_mem hx
 refine h2 m hm hm n ?_ hf
 show n ∈ nb w h ((comp w h f s).getD m 0)
 rw [List.getD_eq_getElem?_getD, List.getElem?_eq_getElem hm]
 exact hn
theorem comp_self {w h : Nat} (hw : w ≤ 12) (hh : h ≤ 12) {f : Nat → Int} {s : Nat} (hs : isC w h s) : s ∈ comp w h f s := by
 have hd := (comp_ok hw hh (f := f) hs).1.head
 have hm := getD_mem' (d := 0) hd.2
 rw [hd.1] at hm
 exact hm
theorem comp_meet {w h : Nat} (hw : w ≤ 12) (hh : h ≤ 12) {f : Nat → Int} {s t : Nat} (hs : isC w h s) (ht : isC w h t) {k : Nat} (h1 : k ∈ comp w h f s) (h2 : k ∈ comp w h f t) : t ∈ comp w h f s := by
 obtain ⟨b1, c1⟩ := comp_ok hw hh (f := f) hs
 obtain ⟨b2, c2⟩ := comp_ok hw hh (f := f) ht
 have hst : f t = f s := (b2.col k h2).symm.trans (b1.col k h1)
 have key : ∀ (m : Nat), m < (comp w h f t).length → (comp w h f t).getD m 0 ∈ comp w h f s → t ∈ comp w h f s := by
  intro m
  induction m using Nat.strongRecOn with
  | _ m ih =>
   intro hm hmem
   by_cases h0 : m = 0
   ·subst h0; rw [b2.head.1] at hmem; exact hmem
   ·obtain ⟨m', p1, p2⟩ := b2.par m (by omega) hm
    have hm' : m' < (comp w h f t).length := by omega
    have hx' := getD_mem' (d := 0) hm'
    have hsym := nb_sym hw (b2.cell _ hx') p2
    exact ih m' p1 hm' (c1 _ hmem _ hsym ((b2.col _ hx').trans hst))
 obtain ⟨m, hm, he⟩ := List.getElem_of_mem h2
 refine key m hm ?_
 rw [List.getD_eq_getElem?_getD, List.getElem?_eq_getElem hm]
 show (comp w h f t)[m] ∈ _
 rw [he]; exact h1
end Go.RR
namespace Go.RR
open Go
theorem it_in {σ ρ : Type} {step : σ → Option (σ ⊕ ρ)} {x y : σ} {m : Nat} (h : step x = some (.inl y)) : iter step (m + 1) x = iter step m y := by
 show (match step x with
  | none => none
  | some (.inl s') => iter step m s'
  | some (.inr r) => some r) = _
 rw [h]
theorem it_out {σ ρ : Type} {step : σ → Option (σ ⊕ ρ)} {x : σ} {r : ρ} {m : Nat} (h : step x = some (.inr r)) : iter step (m + 1) x = some r := by
 show (match step x with
  | none => none
  | some (.inl s') => iter step m s'
  | some (.inr r) => some r) = _
 rw [h]
theorem cst_len (l : List Nat) : (cst l).length = l.length := by simp [cst]
theorem cst_get (l : List Nat) (i : Nat) : (cst l).getD i 0 = ((l.getD i 0 : Nat) : Int) := by
 simp only [cst, List.getD_eq_getElem?_getD, List.getElem?_map]
 cases l[i]? <;> rfl
theorem cst_app (a b : List Nat) : cst (a ++ b) = cst a ++ cst b := by simp [cst]
theorem tdiv12 (k : Nat) : Int.tdiv (k : Int) 12 = ((k / 12 : Nat) : Int) := rfl
theorem tmod12 (k : Nat) : Int.tmod (k : Int) 12 = ((k % 12 : Nat) : Int) := rfl
theorem isCell_eq {x y : Int} {w h : Nat} (hw : w ≤ 12) (hh : h ≤ 12) : s_q1w x y (w : Int) (h : Int) = decide ((0 ≤ x ∧ x < (w : Int)) ∧ (0 ≤ y ∧ y < (h : Int))) := by
 unfold s_q1w s_q1y
 rw [IntWalk.i64_in (w : Int) (by omega), IntWalk.i64_in (h : Int) (by omega), IntWalk.i64_in ((w : Int) - 1) (by omega), IntWalk.i64_in ((h : Int) - 1) (by omega)]
 by_cases a1 : 0 ≤ x <;> by_cases a2 : x ≤ (w : Int) - 1 <;> by_cases a3 : 0 ≤ y <;> by_cases a4 : y ≤ (h : Int) - 1 <;>
  simp [a1, a2, a3, a4, show (x < (w : Int)) ↔ (x ≤ (w : Int) - 1) by omega, show (y < (h : Int)) ↔ (y ≤ (h : Int) - 1) by omega]
noncomputable def dirT : Nat → Nat → Int := updR (updR (updR (updR zF2 0 (upd (upd zF 0 0) 1 (-1))) 1 (upd (upd zF 0 (-1)) 1 0)) 2 (upd (upd zF 0 1) 1 0)) 3 (upd (upd zF 0 0) 1 1)
theorem beside_step {w h k i : Nat} (hw : w ≤ 12) (hh : h ≤ 12) (hk : k < 144) (hi : i < 4) {dx dy : Int} (hx : dirT i 0 = dx) (hy : dirT i 1 = dy) (hdx : -1 ≤ dx ∧ dx ≤ 1) (hdy : -1 ≤ dy ∧ dy ≤ 1) {o : List Int} (ho : o.length ≤ 100) :
  f_q1u_n3 (k : Int) (w : Int) (h : Int) dirT (i : Int) o = some (.inl ((k : Int), (w : Int), (h : Int), dirT, ((i + 1 : Nat) : Int), o ++ cond (decide ((0 ≤ ((k % 12 : Nat) : Int) + dx ∧ ((k % 12 : Nat) : Int) + dx < (w : Int)) ∧ (0 ≤ ((k / 12 : Nat) : Int) + dy ∧ ((k / 12 : Nat) : Int) + dy < (h : Int)))) [(k : Int) + dx + 12 * dy] [])) := by
 unfold f_q1u_n3 t_q1u_3
 try dsimp (config := {proj := false, iota := false, eta := false}) only
 rw [decide_eq_true (show (i : Int) < 4 by omega), inB_nat hi, toNat_nat, show inB 0 2 = true from rfl, show inB 1 2 = true from rfl, hx, hy, tmod12, tdiv12, IntWalk.i64_in ((k / 12 : Nat) : Int) (by omega), IntWalk.i64_in (((k % 12 : Nat) : Int) + dx) (by omega), IntWalk.i64_in (((k / 12 : Nat) : Int) + dy) (by omega), isCell_eq hw hh, IntWalk.i64_in (12 * (((k / 12 : Nat) : Int) + dy)) (by omega), IntWalk.i64_in (((k % 12 : Nat) : Int) + dx + 12 * (((k / 12 : Nat) : Int) + dy)) (by omega), show ((k % 12 : Nat) : Int) + dx + 12 * (((k / 12 : Nat) : Int) + dy) = (k : Int) + dx + 12 * dy by omega, IntWalk.i64_in ((i : Int) + 1) (by omega), fits_small (by simp; omega)]
 simp only [cond_true]
 generalize (decide ((0 ≤ ((k % 12 : Nat) : Int) + dx ∧ ((k % 12 : Nat) : Int) + dx < (w : Int)) ∧ (0 ≤ ((k / 12 : Nat) : Int) + dy ∧ ((k / 12 : Nat) : Int) + dy < (h : Int)))) = b
 cases b <;> simp
theorem cond_if {p : Prop} [Decidable p] {q : Prop} [Decidable q] (hpq : p ↔ q) {x : Int} {m : Nat} (hx : q → x = (m : Int)) : (cond (decide p) [x] [] : List Int) = cst (if q then [m] else []) := by
 by_cases hq : q
 ·rw [decide_eq_true (hpq.2 hq), if_pos hq, hx hq]; rfl
 ·rw [decide_eq_false (fun hp => hq (hpq.1 hp)), if_neg hq]; rfl
theorem ibeside_ok {w h k : Nat} (hw : w ≤ 12) (hh : h ≤ 12) (hk : isC w h k) : s_q1u (k : Int) (w : Int) (h : Int) = some (cst (nb w h k)) := by
 have hk4 := isC_lt hh hk
 unfold isC at hk
 unfold s_q1u t_q1u f_q1u_run3
 try dsimp (config := {proj := false, iota := false, eta := false}) only
 obtain ⟨M, hM⟩ : ∃ M, FU = M + 1 + 1 + 1 + 1 + 1 := ⟨FU - 5, by have := FU_big (m := 5) (by decide); omega⟩
 rw [hM]
 have s0 := beside_step (i := 0) (k := k) hw hh hk4 (by omega) (dx := 0) (dy := -1) rfl rfl (by omega) (by omega) (o := []) (by simp)
 rw [cond_if (q := 0 < k / 12) (m := k - 12) (by omega) (by omega)] at s0
 have l0 : (cst (if 0 < k / 12 then [k - 12] else [])).length ≤ 1 := by by_cases hq : 0 < k / 12 <;> simp [hq, cst]
 have s1 := beside_step (i := 1) (k := k) hw hh hk4 (by omega) (dx := -1) (dy := 0) rfl rfl (by omega) (by omega) (o := [] ++ cst (if 0 < k / 12 then [k - 12] else [])) (by simp only [List.nil_append]; omega)
 rw [cond_if (q := 0 < k % 12) (m := k - 1) (by omega) (by omega)] at s1
 have l1 : (cst (if 0 < k % 12 then [k - 1] else [])).length ≤ 1 := by by_cases hq : 0 < k % 12 <;> simp [hq, cst]
 have s2 := beside_step (i := 2) (k := k) hw hh hk4 (by omega) (dx := 1) (dy := 0) rfl rfl (by omega) (by omega) (o := [] ++ cst (if 0 < k / 12 then [k - 12] else []) ++ cst (if 0 < k % 12 then [k - 1] else [])) (by simp only [List.nil_append, List.length_append]; omega)
 rw [cond_if (q := k % 12 + 1 < w) (m := k + 1) (by omega) (by omega)] at s2
 have l2 : (cst (if k % 12 + 1 < w then [k + 1] else [])).length ≤ 1 := by by_cases hq : k % 12 + 1 < w <;> simp [hq, cst]
 have s3 := beside_step (i := 3) (k := k) hw hh hk4 (by omega) (dx := 0) (dy := 1) rfl rfl (by omega) (by omega) (o := [] ++ cst (if 0 < k / 12 then [k - 12] else []) ++ cst (if 0 < k % 12 then [k - 1] else []) ++ cst (if k % 12 + 1 < w then [k + 1] else [])) (by simp only [List.nil_append, List.length_append]; omega)
 rw [cond_if (q := k / 12 + 1 < h) (m := k + 12) (by omega) (by omega)] at s3
 refine (it_in (step := fun x => f_q1u_n3 x.1 x.2.1 x.2.2.1 x.2.2.2.1 x.2.2.2.2.1 x.2.2.2.2.2) (x := ((k : Int), (w : Int), (h : Int), dirT, 0, [])) s0).trans ?_
 refine (it_in (step := fun x => f_q1u_n3 x.1 x.2.1 x.2.2.1 x.2.2.2.1 x.2.2.2.2.1 x.2.2.2.2.2) s1).trans ?_
 refine (it_in (step := fun x => f_q1u_n3 x.1 x.2.1 x.2.2.1 x.2.2.2.1 x.2.2.2.2.1 x.2.2.2.2.2) s2).trans ?_
 refine (it_in (step := fun x => f_q1u_n3 x.1 x.2.1 x.2.2.1 x.2.2.2.1 x.2.2.2.2.1 x.2.2.2.2.2) s3).trans ?_
 refine it_out ?_
 show f_q1u_n3 (k : Int) (w : Int) (h : Int) dirT 4 _ = _
 unfold f_q1u_n3 t_q1u_3
 try dsimp (config := {proj := false, iota := false, eta := false}) only
 rw [show decide ((4 : Int) < 4) = false from rfl, cond_false]
 congr 2
 unfold nb
 simp only [cst_app, List.nil_append, List.append_assoc]
theorem sbeside_ok {w h k : Nat} (hw : w ≤ 12) (hh : h ≤ 12) {f : Nat → Int} (hk : isC w h k) : s_q16 (w : Int) (h : Int) f (k : Int) = some (cst (nb w h k)) := by
 have hk4 := isC_lt hh hk
 unfold isC at hk
 unfold s_q16 t_q16 nb
 try dsimp (config := {proj := false, iota := false, eta := false}) only
 rw [tdiv12, tmod12, IntWalk.i64_in ((k / 12 : Nat) : Int) (by omega), IntWalk.i64_in (((k / 12 : Nat) : Int) + 1) (by omega), IntWalk.i64_in (((k % 12 : Nat) : Int) + 1) (by omega), IntWalk.i64_in (w : Int) (by omega), IntWalk.i64_in (h : Int) (by omega), IntWalk.i64_in ((k : Int) - 12) (by omega), IntWalk.i64_in ((k : Int) - 1) (by omega), IntWalk.i64_in ((k : Int) + 1) (by omega), IntWalk.i64_in ((k : Int) + 12) (by omega)]
 have g1 : decide (((k / 12 : Nat) : Int) > 0) = decide (0 < k / 12) := decide_eq_decide.2 (by omega)
 have g2 : decide (((k % 12 : Nat) : Int) > 0) = decide (0 < k % 12) := decide_eq_decide.2 (by omega)
 have g3 : decide (((k % 12 : Nat) : Int) + 1 < (w : Int)) = decide (k % 12 + 1 < w) := decide_eq_decide.2 (by omega)
 have g4 : decide (((k / 12 : Nat) : Int) + 1 < (h : Int)) = decide (k / 12 + 1 < h) := decide_eq_decide.2 (by omega)
 rw [g1, g2, g3, g4]
 have e1 : 0 < k / 12 → (k : Int) - 12 = ((k - 12 : Nat) : Int) := fun _ => by omega
 have e2 : 0 < k % 12 → (k : Int) - 1 = ((k - 1 : Nat) : Int) := fun _ => by omega
 by_cases h1 : 0 < k / 12 <;> by_cases h2 : 0 < k % 12 <;> by_cases h3 : k % 12 + 1 < w <;> by_cases h4 : k / 12 + 1 < h <;>
  simp only [h1, h2, h3, h4, decide_true, decide_false, cond_true, cond_false, if_true, if_false, e1, e2, List.nil_append, List.append_nil, List.length_append, List.length_singleton, List.length_nil, show ∀ n : Nat, n ≤ 1000 → fits (n * 8) = true from fun n hn => fits_small (by omega), cst, List.map_append, List.map_cons, List.map_nil, List.append_assoc, List.cons_append, Nat.zero_add, show fits (1 * 8) = true from fits_small (by omega), show fits ((1 + 1) * 8) = true from fits_small (by omega), show fits ((1 + (1 + 1)) * 8) = true from fits_small (by omega), show fits ((1 + 1 + 1) * 8) = true from fits_small (by omega), show fits ((1 + 1 + 1 + 1) * 8) = true from fits_small (by omega)] <;> rfl
end Go.RR
namespace Go.RR
open Go
theorem contains_cst (q : List Nat) (n : Nat) : (cst q).contains (n : Int) = q.contains n := by
 rw [Bool.eq_iff_iff, List.contains_iff_mem, List.contains_iff_mem, cst_mem]
 exact ⟨fun ⟨m, h1, h2⟩ => by rw [show n = m by omega]; exact h1, fun h => ⟨n, h, rfl⟩⟩
theorem contains_ok {l : List Int} {n : Int} (hl : l.length ≤ 1000000) : s_q0c l n = some (l.contains n) := by
 have hs1 : ∀ i, i < l.length → f_q0k_n2 n (l.length : Nat) i l = some (cond (n == l.getD i 0) (Sum.inr (i : Int)) (Sum.inl (n, ((l.length : Nat) : Int), ((i + 1 : Nat) : Int), l))) := by
  intro i hi
  unfold f_q0k_n2
  rw [lt_true hi, inB_nat hi, toNat_nat, succ64 (by omega)]
  simp only [cond_true]
  cases n == l.getD i 0 <;> rfl
 have he1 : f_q0k_n2 n (l.length : Nat) (l.length : Nat) l = some (Sum.inr (-1)) := by
  unfold f_q0k_n2
  rw [lt_neg, cond_false]
 obtain ⟨r, h1, h2, _⟩ := run_idx (step := fun x => f_q0k_n2 x.1 x.2.1 x.2.2.1 x.2.2.2) l.length (fun i => (n, ((l.length : Nat) : Int), (i : Int), l)) (fun i => n == l.getD i 0) hs1 he1 l.length 0 FU (by omega) (FU_big (pow_big (by omega)))
 have h1 : iter (fun x => f_q0k_n2 x.1 x.2.1 x.2.2.1 x.2.2.2) FU (n, ((l.length : Nat) : Int), 0, l) = some r := h1
 unfold s_q0c s_q0k f_q0k_run2
 rw [h1]
 simp only [Option.bind]
 rw [h2, any_getD 0 l (fun x => n == x), List.contains_eq_any_beq]
theorem adF_len (f : Nat → Int) (c : Int) (q : List Nat) (n : Nat) : (adF f c q n).length ≤ q.length + 1 := by
 rcases adF_cases f c q n with ⟨e, _⟩ | ⟨e, _⟩ <;> rw [e] <;> simp
theorem seen_app (q : List Nat) (n : Nat) : updb (fun k => q.contains k) n true = fun k => (q ++ [n]).contains k := by
 funext k
 unfold updb
 by_cases e : k = n
 ·subst e; rw [show Nat.beq k k = true from Nat.beq_refl k]; simp
 ·rw [show Nat.beq k n = false from beqF e]
  simp [e]
section
variable {w h : Nat} (hw : w ≤ 12) (hh : h ≤ 12) {f : Nat → Int} {s : Nat}
include hw hh
theorem field_in {q : List Nat} {i : Nat} (hq : BQ w h f s q) (hi : i < q.length) :
  f_q0f_run6 ((i : Int), (((cst (nb w h (q.getD i 0))).length : Nat) : Int), 0, (w : Int), (h : Int), f, cst q, cst (nb w h (q.getD i 0))) = some (.inl (((i + 1 : Nat) : Int), (w : Int), (h : Int), f, cst (roundF w h f (f s) q i))) := by
 have hql := nodup_lenN hq.nd fun x hx => isC_lt hh (hq.cell x hx)
 generalize hx : q.getD i 0 = x
 have hnl := nb_len w h x
 unfold f_q0f_run6
 have key := run_countI (step := fun x => f_q0f_n6 x.1 x.2.1 x.2.2.1 x.2.2.2.1 x.2.2.2.2.1 x.2.2.2.2.2.1 x.2.2.2.2.2.2.1 x.2.2.2.2.2.2.2) (nb w h x).length (fun j t => ((i : Int), (((cst (nb w h x)).length : Nat) : Int), (j : Int), (w : Int), (h : Int), f, cst t, cst (nb w h x))) (fun t j => adF f (f s) t ((nb w h x).getD j 0)) (fun j t => BQ w h f s t ∧ i < t.length ∧ t.getD i 0 = x ∧ t.length ≤ 144 + j) (.inl (((i + 1 : Nat) : Int), (w : Int), (h : Int), f, cst (roundF w h f (f s) q i))) q (by omega) ⟨hq, hi, hx, by omega⟩ ?_ ?_
 ·exact key
 ·intro j t hj ⟨h1, h2, h3, h4⟩
  have hn := getD_mem' (d := 0) hj
  have hg := cst_get (nb w h x) j
  have hjl : j < (cst (nb w h x)).length := by rw [cst_len]; exact hj
  have hil : i < (cst t).length := by rw [cst_len]; exact h2
  have hgt := cst_get t i
  rw [h3] at hgt
  generalize (nb w h x).getD j 0 = n at hn hg ⊢
  obtain ⟨k1, ⟨u, k2⟩, _⟩ := adF_ok hw h1 h2 (n := n) (by rw [h3]; exact hn)
  have hadl := adF_len f (f s) t n
  have hxm := getD_mem' (d := 0) h2
  rw [h3] at hxm
  have hxc := h1.cell _ hxm
  have hx4 := isC_lt hh hxc
  have hn4 := isC_lt hh (nb_cell hw hxc hn)
  refine ⟨?_, k1, by rw [k2, List.length_append]; omega, by rw [k2, List.getD_eq_getElem?_getD, List.getElem?_append_left h2, ← List.getD_eq_getElem?_getD]; exact h3, by omega⟩
  show f_q0f_n6 i ((cst (nb w h x)).length : Nat) j w h f (cst t) (cst (nb w h x)) = _
  unfold f_q0f_n6 adF
  rw [lt_true hjl, inB_nat hjl, toNat_nat, hg, inB_nat hn4, inB_nat hil, toNat_nat, hgt, inB_nat hx4, toNat_nat, toNat_nat, h1.col x hxm, contains_ok (by rw [cst_len]; omega), contains_cst, IntWalk.i64_in ((j : Int) + 1) (by omega), fits_small (by rw [cst_len]; simp; omega)]
  simp only [cond_true, Option.bind]
  cases f n == f s
  ·rfl
  ·simp only [cond_true]
   cases t.contains n
   ·simp only [Bool.not_false, cond_true, cond_false]
    rw [cst_app]
    rfl
   ·rfl
 ·intro _
  rw [foldl_getD 0 (fun t n => adF f (f s) t n)]
  show f_q0f_n6 i ((cst (nb w h x)).length : Nat) ((nb w h x).length : Nat) w h f _ (cst (nb w h x)) = _
  unfold f_q0f_n6
  rw [cst_len, lt_neg, cond_false, IntWalk.i64_in ((i : Int) + 1) (by omega)]
  unfold roundF
  rw [hx]
  rfl
theorem field_run : ∀ (m i : Nat) (q : List Nat) (M : Nat), BQ w h f s q → i ≤ q.length → 144 < i + m → Closed w h f s q i → m < M →
  iter (fun x => f_q0f_n3 x.1 x.2.1 x.2.2.1 x.2.2.2.1 x.2.2.2.2) M ((i : Int), (w : Int), (h : Int), f, cst q) = some (cst (listed fun k => (bfs w h f (f s) m i q).contains k))
 | 0, i, q, _, hq, hi, hm, hc, _ => by
  have := nodup_lenN hq.nd fun x hx => isC_lt hh (hq.cell x hx)
  omega
 | m + 1, i, q, M + 1, hq, hi, hm, hc, hM => by
  have hql := nodup_lenN hq.nd fun x hx => isC_lt hh (hq.cell x hx)
  unfold bfs
  by_cases h1 : i < q.length
  ·rw [if_pos h1]
   obtain ⟨k1, k2, k3⟩ := round_ok hw hq h1 hc
   have hil : i < (cst q).length := by rw [cst_len]; exact h1
   have hcell := hq.cell _ (getD_mem' (d := 0) h1)
   have hs : f_q0f_n3 (i : Int) (w : Int) (h : Int) f (cst q) = some (.inl (((i + 1 : Nat) : Int), (w : Int), (h : Int), f, cst (roundF w h f (f s) q i))) := by
    unfold f_q0f_n3
    rw [lt_true hil, inB_nat hil, toNat_nat, cst_get, ibeside_ok hw hh hcell]
    simp only [cond_true, Option.bind]
    exact field_in hw hh hq h1
   rw [it_in (step := fun x => f_q0f_n3 x.1 x.2.1 x.2.2.1 x.2.2.2.1 x.2.2.2.2) (x := ((i : Int), (w : Int), (h : Int), f, cst q)) hs]
   exact field_run m (i + 1) _ M k1 (by omega) (by omega) k2 (by omega)
  ·rw [if_neg h1]
   obtain rfl : i = q.length := by omega
   refine it_out ?_
   show f_q0f_n3 (q.length : Nat) (w : Int) (h : Int) f (cst q) = _
   unfold f_q0f_n3 s_gSort
   have h0 := hq.head.2
   rw [cst_len, lt_neg, cond_false, show Nat.blt 0 q.length = true from Nat.ble_eq_true_of_le h0, show Nat.ble q.length 1000000 = true by rw [Nat.ble_eq]; omega, sort_listed hq.nd fun x hx => isC_lt hh (hq.cell x hx)]
   rfl
 | _ + 1, _, _, 0, _, _, _, _, hM => by omega
theorem ifield_ok (hs : isC w h s) : s_q0f (w : Int) (h : Int) f ((s % 12 : Nat) : Int) ((s / 12 : Nat) : Int) = some (cst (listed fun k => (comp w h f s).contains k)) := by
 have hs4 := isC_lt hh hs
 unfold s_q0f f_q0f_run3
 rw [IntWalk.i64_in (12 * ((s / 12 : Nat) : Int)) (by omega), IntWalk.i64_in _ (by omega), show ((s % 12 : Nat) : Int) + 12 * ((s / 12 : Nat) : Int) = (s : Int) by omega]
 exact field_run hw hh 145 0 [s] FU (first_ok hs) (by simp) (by omega) (fun m hm => by omega) (FU_big (pow_big (by omega)))
theorem sfield_in {q : List Nat} {i : Nat} (hs : isC w h s) (hq : BQ w h f s q) (hi : i < q.length) {z : Nat → Bool} :
  f_q1e_run9 ((s : Int), (i : Int), 0, (w : Int), (h : Int), f, z, (fun k => q.contains k), cst q, cst (nb w h (q.getD i 0))) = some (.inl ((s : Int), ((i + 1 : Nat) : Int), (w : Int), (h : Int), f, z, (fun k => (roundF w h f (f s) q i).contains k), cst (roundF w h f (f s) q i))) := by
 have hs4 := isC_lt hh hs
 have hql := nodup_lenN hq.nd fun x hx => isC_lt hh (hq.cell x hx)
 generalize hx : q.getD i 0 = x
 have hnl := nb_len w h x
 unfold f_q1e_run9
 have key := run_countI (step := fun x => f_q1e_n9 x.1 x.2.1 x.2.2.1 x.2.2.2.1 x.2.2.2.2.1 x.2.2.2.2.2.1 x.2.2.2.2.2.2.1 x.2.2.2.2.2.2.2.1 x.2.2.2.2.2.2.2.2.1 x.2.2.2.2.2.2.2.2.2) (nb w h x).length (fun j t => ((s : Int), (i : Int), (j : Int), (w : Int), (h : Int), f, z, (fun k => t.contains k), cst t, cst (nb w h x))) (fun t j => adF f (f s) t ((nb w h x).getD j 0)) (fun j t => BQ w h f s t ∧ i < t.length ∧ t.getD i 0 = x ∧ t.length ≤ 144 + j) (.inl ((s : Int), ((i + 1 : Nat) : Int), (w : Int), (h : Int), f, z, (fun k => (roundF w h f (f s) q i).contains k), cst (roundF w h f (f s) q i))) q (by omega) ⟨hq, hi, hx, by omega⟩ ?_ ?_
 ·exact key
 ·intro j t hj ⟨h1, h2, h3, h4⟩
  have hn := getD_mem' (d := 0) hj
  have hg := cst_get (nb w h x) j
  have hjl : j < (cst (nb w h x)).length := by rw [cst_len]; exact hj
  generalize (nb w h x).getD j 0 = n at hn hg ⊢
  obtain ⟨k1, ⟨u, k2⟩, _⟩ := adF_ok hw h1 h2 (n := n) (by rw [h3]; exact hn)
  have hadl := adF_len f (f s) t n
  have hxm := getD_mem' (d := 0) h2
  rw [h3] at hxm
  have hxc := h1.cell _ hxm
  have hn4 := isC_lt hh (nb_cell hw hxc hn)
  refine ⟨?_, k1, by rw [k2, List.length_append]; omega, by rw [k2, List.getD_eq_getElem?_getD, List.getElem?_append_left h2, ← List.getD_eq_getElem?_getD]; exact h3, by omega⟩
  show f_q1e_n9 s i j w h f z (fun k => t.contains k) (cst t) (cst (nb w h x)) = _
  unfold f_q1e_n9 adF
  rw [lt_true hjl, inB_nat hjl, toNat_nat, hg, inB_nat hn4, inB_nat hs4, toNat_nat, toNat_nat, IntWalk.i64_in ((j : Int) + 1) (by omega), fits_small (by rw [cst_len]; simp; omega)]
  simp only [cond_true]
  by_cases hc : t.contains n = true
  ·rw [hc]
   cases f n == f s <;> rfl
  ·rw [Bool.not_eq_true] at hc
   rw [hc]
   cases f n == f s
   ·rfl
   ·simp only [Bool.not_false, cond_true, cond_false]
    rw [cst_app, seen_app]
    rfl
 ·intro _
  rw [foldl_getD 0 (fun t n => adF f (f s) t n)]
  show f_q1e_n9 s i ((nb w h x).length : Nat) w h f z _ _ (cst (nb w h x)) = _
  unfold f_q1e_n9
  rw [cst_len, lt_neg, cond_false, IntWalk.i64_in ((i : Int) + 1) (by omega)]
  unfold roundF
  rw [hx]
  rfl
theorem sfield_run (hs : isC w h s) {z : Nat → Bool} : ∀ (m i : Nat) (q : List Nat) (M : Nat), BQ w h f s q → i ≤ q.length → 144 < i + m → Closed w h f s q i → m < M →
  iter (fun x => f_q1e_n5 x.1 x.2.1 x.2.2.1 x.2.2.2.1 x.2.2.2.2.1 x.2.2.2.2.2.1 x.2.2.2.2.2.2.1 x.2.2.2.2.2.2.2) M ((s : Int), (i : Int), (w : Int), (h : Int), f, z, (fun k => q.contains k), cst q) = some (fun k => (bfs w h f (f s) m i q).contains k)
 | 0, i, q, _, hq, hi, hm, hc, _ => by
  have := nodup_lenN hq.nd fun x hx => isC_lt hh (hq.cell x hx)
  omega
 | m + 1, i, q, M + 1, hq, hi, hm, hc, hM => by
  unfold bfs
  by_cases h1 : i < q.length
  ·rw [if_pos h1]
   obtain ⟨k1, k2, k3⟩ := round_ok hw hq h1 hc
   have hil : i < (cst q).length := by rw [cst_len]; exact h1
   have hcell := hq.cell _ (getD_mem' (d := 0) h1)
   have hst : f_q1e_n5 (s : Int) (i : Int) (w : Int) (h : Int) f z (fun k => q.contains k) (cst q) = some (.inl ((s : Int), ((i + 1 : Nat) : Int), (w : Int), (h : Int), f, z, (fun k => (roundF w h f (f s) q i).contains k), cst (roundF w h f (f s) q i))) := by
    unfold f_q1e_n5
    rw [lt_true hil, inB_nat hil, toNat_nat, cst_get, sbeside_ok hw hh hcell]
    simp only [cond_true, Option.bind]
    exact sfield_in hw hh hs hq h1
   rw [it_in (step := fun x => f_q1e_n5 x.1 x.2.1 x.2.2.1 x.2.2.2.1 x.2.2.2.2.1 x.2.2.2.2.2.1 x.2.2.2.2.2.2.1 x.2.2.2.2.2.2.2) (x := ((s : Int), (i : Int), (w : Int), (h : Int), f, z, (fun k => q.contains k), cst q)) hst]
   exact sfield_run hs m (i + 1) _ M k1 (by omega) (by omega) k2 (by omega)
  ·rw [if_neg h1]
   obtain rfl : i = q.length := by omega
   refine it_out ?_
   show f_q1e_n5 (s : Int) (q.length : Nat) (w : Int) (h : Int) f z (fun k => q.contains k) (cst q) = _
   unfold f_q1e_n5
   rw [cst_len, lt_neg, cond_false]
 | _ + 1, _, _, 0, _, _, _, _, hM => by omega
theorem sfield_ok (hs : isC w h s) : s_q1e (w : Int) (h : Int) f (s : Int) = some (fun k => (comp w h f s).contains k) := by
 have hs4 := isC_lt hh hs
 unfold s_q1e f_q1e_run5
 rw [inB_nat hs4, cond_true, toNat_nat]
 have e : updb zB s true = fun k => ([s] : List Nat).contains k := by
  have := seen_app [] s
  rw [List.nil_append] at this
  rw [← this]
  congr 1
 rw [e]
 exact sfield_run hw hh hs 145 0 [s] FU (first_ok hs) (by simp) (by omega) (fun m hm => by omega) (FU_big (pow_big (by omega)))
end
end Go.RR
namespace Go.RR
open Go
theorem listed_ok (p : Nat → Bool) : s_q18 p = some (cst (listed p)) := by
 have hf : ∀ (l : List Nat) (st : List Int), l.foldl (fun st i => cond (p i) (st ++ [(i : Int)]) st) st = st ++ cst (l.filter p) := by
  intro l
  induction l with
  | nil => intro st; simp [cst]
  | cons a l ih =>
   intro st
   rw [List.foldl_cons, ih, List.filter_cons]
   cases p a <;> simp [cst]
 unfold s_q18 f_q18_run3
 refine (run_countI (step := fun x => f_q18_n3 x.1 x.2.1 x.2.2) 144 (fun i st => ((i : Int), p, st)) (fun st i => cond (p i) (st ++ [(i : Int)]) st) (fun i st => st.length ≤ i) (cst (listed p)) [] (by omega) (by simp) ?_ ?_).trans rfl
 ·intro i st hi hI
  refine ⟨?_, by cases p i <;> simp <;> omega⟩
  show f_q18_n3 (i : Int) p st = _
  unfold f_q18_n3
  rw [decide_eq_true (show (i : Int) < 144 by omega), inB_nat hi, toNat_nat, fits_small (by simp; omega), IntWalk.i64_in ((i : Int) + 1) (by omega)]
  simp only [cond_true]
  cases p i <;> rfl
 ·intro _
  rw [hf]
  show f_q18_n3 144 p _ = _
  unfold f_q18_n3
  rw [show decide ((144 : Int) < 144) = false from rfl, cond_false, List.nil_append]
  unfold listed
  rw [List.range_eq_range']
def fdS (w h : Nat) (f : Nat → Int) (st : List (List Int) × (Nat → Bool)) (i : Nat) : List (List Int) × (Nat → Bool) :=
 cond (decide (isC w h i) && !st.2 i) (st.1 ++ [cst (listed fun k => (comp w h f i).contains k)], fun k => st.2 k || (comp w h f i).contains k) st
def fdA (w h : Nat) (f : Nat → Int) : List (List Int) × (Nat → Bool) := (List.range' 0 144).foldl (fdS w h f) ([], zB)
theorem fdA_def (w h : Nat) (f : Nat → Int) : fdA w h f = (List.range' 0 144).foldl (fdS w h f) ([], zB) := rfl
theorem fdS_len (w h : Nat) (f : Nat → Int) (st : List (List Int) × (Nat → Bool)) (i : Nat) : (fdS w h f st i).1.length ≤ st.1.length + 1 := by
 unfold fdS
 cases decide (isC w h i) && !st.2 i <;> simp
theorem upd_true (l : List Nat) : ∀ d : Nat → Bool, l.foldl (fun d n => updb d n true) d = fun k => d k || l.contains k := by
 induction l with
 | nil => intro d; funext k; simp
 | cons a l ih =>
  intro d
  rw [List.foldl_cons, ih]
  funext k
  unfold updb
  by_cases e : k = a
  ·subst e; rw [show Nat.beq k k = true from Nat.beq_refl k]; simp
  ·rw [show Nat.beq k a = false from beqF e]; simp [e]
theorem upd_or (z : Nat → Bool) (l : List Nat) : ∀ d : Nat → Bool, l.foldl (fun d n => updb d n (d n || z n)) d = fun k => d k || (l.contains k && z k) := by
 induction l with
 | nil => intro d; funext k; simp
 | cons a l ih =>
  intro d
  rw [List.foldl_cons, ih]
  funext k
  unfold updb
  by_cases e : k = a
  ·subst e
   rw [show Nat.beq k k = true from Nat.beq_refl k]
   cases d k <;> cases z k <;> simp
  ·rw [show Nat.beq k a = false from beqF e]; simp [e]
theorem cell_dec {w h i : Nat} (hw : w ≤ 12) (hh : h ≤ 12) (f : Nat → Int) (hi : i < 144) : s_q0l (w : Int) (h : Int) f (Int.tmod (i : Int) 12) (IntKind.wrap .i64 (Int.tdiv (i : Int) 12)) = decide (isC w h i) := by
 unfold s_q0l
 rw [tdiv12, tmod12, IntWalk.i64_in ((i / 12 : Nat) : Int) (by omega), isCell_eq hw hh]
 exact decide_eq_decide.2 (by unfold isC; omega)
theorem is_dec {w h i : Nat} (hw : w ≤ 12) (hh : h ≤ 12) (f : Nat → Int) (hi : i < 144) : s_q28 (w : Int) (h : Int) f (i : Int) = decide (isC w h i) := by
 have h0 : s_q27 (i : Int) 0 143 = true := by
  unfold s_q27
  rw [decide_eq_true (show (0 : Int) ≤ (i : Int) by omega), cond_true, decide_eq_true (show (i : Int) ≤ 143 by omega)]
 unfold s_q28
 rw [h0, cond_true, tdiv12, tmod12, IntWalk.i64_in ((i / 12 : Nat) : Int) (by omega), IntWalk.i64_in (w : Int) (by omega), IntWalk.i64_in (h : Int) (by omega)]
 rw [Bool.eq_iff_iff, decide_eq_true_eq]
 unfold isC
 by_cases h1 : i % 12 < w
 ·rw [decide_eq_true (show ((i % 12 : Nat) : Int) < (w : Int) by omega), cond_true, decide_eq_true_eq]; omega
 ·rw [decide_eq_false (show ¬ ((i % 12 : Nat) : Int) < (w : Int) by omega), cond_false]
  simp [h1]
section
variable {w h : Nat} (hw : w ≤ 12) (hh : h ≤ 12) {f : Nat → Int}
include hw hh
theorem comp_lt {s : Nat} (hs : isC w h s) : ∀ x ∈ comp w h f s, x < 144 := fun x hx => isC_lt hh ((comp_ok hw hh hs).1.cell x hx)
theorem listed_comp {s : Nat} (hs : isC w h s) (k : Nat) : (listed fun k => (comp w h f s).contains k).contains k = (comp w h f s).contains k := by
 rw [Bool.eq_iff_iff, List.contains_iff_mem, listed_mem]
 exact ⟨fun h => h.2, fun h => ⟨comp_lt hw hh hs k (by simpa using h), h⟩⟩
theorem ifields_mark {i : Nat} (hi : i < 144) (hc : isC w h i) {o : List (List Int)} (ho : o.length ≤ i) (d : Nat → Bool) :
  f_q0e_run8 ((i : Int), (((cst (listed fun k => (comp w h f i).contains k)).length : Nat) : Int), 0, (w : Int), (h : Int), f, o, d, cst (listed fun k => (comp w h f i).contains k)) = some (.inl (((i + 1 : Nat) : Int), (w : Int), (h : Int), f, o ++ [cst (listed fun k => (comp w h f i).contains k)], fun k => d k || (comp w h f i).contains k)) := by
 have hlm : ∀ x ∈ listed fun k => (comp w h f i).contains k, x < 144 := fun x hx => (listed_mem.1 hx).1
 have hll := nodup_lenN (listed_nodup fun k => (comp w h f i).contains k) hlm
 have hcon := listed_comp hw hh (f := f) hc
 generalize (listed fun k => (comp w h f i).contains k) = l at *
 unfold f_q0e_run8
 refine (run_countI (step := fun x => f_q0e_n8 x.1 x.2.1 x.2.2.1 x.2.2.2.1 x.2.2.2.2.1 x.2.2.2.2.2.1 x.2.2.2.2.2.2.1 x.2.2.2.2.2.2.2.1 x.2.2.2.2.2.2.2.2) l.length (fun j d => ((i : Int), (((cst l).length : Nat) : Int), (j : Int), (w : Int), (h : Int), f, o, d, cst l)) (fun d j => updb d (l.getD j 0) true) (fun _ _ => True) _ d (by omega) trivial ?_ ?_).trans rfl
 ·intro j d hj _
  refine ⟨?_, trivial⟩
  have hjl : j < (cst l).length := by rw [cst_len]; exact hj
  have hx4 := hlm _ (getD_mem' (d := 0) hj)
  show f_q0e_n8 (i : Int) ((cst l).length : Nat) (j : Int) w h f o d (cst l) = _
  unfold f_q0e_n8
  rw [lt_true hjl, inB_nat hjl, toNat_nat, cst_get, inB_nat hx4, toNat_nat, IntWalk.i64_in ((j : Int) + 1) (by omega)]
  rfl
 ·intro _
  rw [foldl_getD 0 (fun d n => updb d n true), upd_true]
  show f_q0e_n8 (i : Int) ((cst l).length : Nat) (l.length : Nat) w h f o _ (cst l) = _
  unfold f_q0e_n8
  rw [cst_len, lt_neg, cond_false, fits_small (by simp; omega), IntWalk.i64_in ((i : Int) + 1) (by omega), cond_true]
  simp only [hcon]
  rfl
theorem ifields_ok : s_q0e (w : Int) (h : Int) f = some (fdA w h f).1 := by
 unfold s_q0e f_q0e_run3
 refine (run_countI (step := fun x => f_q0e_n3 x.1 x.2.1 x.2.2.1 x.2.2.2.1 x.2.2.2.2.1 x.2.2.2.2.2) 144 (fun i st => ((i : Int), (w : Int), (h : Int), f, st.1, st.2)) (fdS w h f) (fun i st => st.1.length ≤ i) (fdA w h f).1 ([], zB) (by omega) (by simp) ?_ ?_).trans rfl
 ·intro i st hi hI
  have hl := fdS_len w h f st i
  refine ⟨?_, by omega⟩
  show f_q0e_n3 (i : Int) w h f st.1 st.2 = _
  unfold f_q0e_n3 fdS
  rw [decide_eq_true (show (i : Int) < 144 by omega), cell_dec hw hh f hi, inB_nat hi, toNat_nat, IntWalk.i64_in ((i : Int) + 1) (by omega)]
  simp only [cond_true]
  by_cases hc : isC w h i
  ·rw [decide_eq_true hc]
   simp only [Bool.not_true, cond_false, Bool.true_and]
   cases hd : st.2 i
   ·simp only [Bool.not_false, cond_true, cond_false]
    rw [tdiv12, tmod12, IntWalk.i64_in ((i / 12 : Nat) : Int) (by omega), ifield_ok hw hh hc]
    exact ifields_mark hw hh hi hc hI st.2
   ·rfl
  ·rw [decide_eq_false hc]
   rfl
 ·intro _
  have key : ∀ st : List (List Int) × (Nat → Bool), f_q0e_n3 ((144 : Nat) : Int) w h f st.1 st.2 = some (.inr st.1) := fun st => by
   unfold f_q0e_n3
   rw [show decide (((144 : Nat) : Int) < 144) = false from rfl, cond_false]
  rw [← fdA_def]
  generalize fdA w h f = st
  exact key st
theorem sfields_mark {i : Nat} (hi : i < 144) (hc : isC w h i) {o : List (List Int)} (ho : o.length ≤ i) (d : Nat → Bool) :
  f_q17_run9 ((i : Int), 0, (w : Int), (h : Int), f, o, d, fun k => (comp w h f i).contains k) = some (.inl (((i + 1 : Nat) : Int), (w : Int), (h : Int), f, o ++ [cst (listed fun k => (comp w h f i).contains k)], fun k => d k || (comp w h f i).contains k)) := by
 have hlt := comp_lt hw hh (f := f) hc
 have hz : ∀ k, (144 ≤ k) → (comp w h f i).contains k = false := fun k hk => by
  rw [Bool.eq_false_iff]
  intro e
  have := hlt k (by simpa using e)
  omega
 generalize hzz : (fun k => (comp w h f i).contains k) = z
 have hz : ∀ k, 144 ≤ k → z k = false := fun k hk => by rw [← hzz]; exact hz k hk
 have hd' : ∀ k, (comp w h f i).contains k = z k := fun k => by rw [← hzz]
 simp only [hd']
 unfold f_q17_run9
 refine (run_countI (step := fun x => f_q17_n9 x.1 x.2.1 x.2.2.1 x.2.2.2.1 x.2.2.2.2.1 x.2.2.2.2.2.1 x.2.2.2.2.2.2.1 x.2.2.2.2.2.2.2) 144 (fun j d => ((i : Int), (j : Int), (w : Int), (h : Int), f, o, d, z)) (fun d j => updb d j (d j || z j)) (fun _ _ => True) _ d (by omega) trivial ?_ ?_).trans rfl
 ·intro j d hj _
  refine ⟨?_, trivial⟩
  show f_q17_n9 (i : Int) (j : Int) w h f o d z = _
  unfold f_q17_n9
  rw [decide_eq_true (show (j : Int) < 144 by omega), inB_nat hj, toNat_nat, IntWalk.i64_in ((j : Int) + 1) (by omega)]
  simp only [cond_true]
  cases d j <;> rfl
 ·intro _
  rw [upd_or]
  show f_q17_n9 (i : Int) 144 w h f o _ z = _
  unfold f_q17_n9
  rw [show decide ((144 : Int) < 144) = false from rfl, cond_false, listed_ok]
  simp only [Option.bind]
  rw [fits_small (by simp; omega), IntWalk.i64_in ((i : Int) + 1) (by omega), cond_true]
  congr 8
  funext k
  by_cases hk : k < 144
  ·rw [show (List.range' 0 144).contains k = true by simp [List.mem_range'_1]; omega, Bool.true_and]
  ·rw [hz k (by omega), Bool.and_false]
theorem sfields_ok : s_q17 (w : Int) (h : Int) f = some (fdA w h f).1 := by
 unfold s_q17 f_q17_run4
 refine (run_countI (step := fun x => f_q17_n4 x.1 x.2.1 x.2.2.1 x.2.2.2.1 x.2.2.2.2.1 x.2.2.2.2.2) 144 (fun i st => ((i : Int), (w : Int), (h : Int), f, st.1, st.2)) (fdS w h f) (fun i st => st.1.length ≤ i) (fdA w h f).1 ([], zB) (by omega) (by simp) ?_ ?_).trans rfl
 ·intro i st hi hI
  have hl := fdS_len w h f st i
  refine ⟨?_, by omega⟩
  show f_q17_n4 (i : Int) w h f st.1 st.2 = _
  unfold f_q17_n4 fdS
  rw [decide_eq_true (show (i : Int) < 144 by omega), is_dec hw hh f hi, inB_nat hi, toNat_nat, IntWalk.i64_in ((i : Int) + 1) (by omega)]
  simp only [cond_true]
  by_cases hc : isC w h i
  ·rw [decide_eq_true hc]
   simp only [Bool.not_true, cond_false, Bool.true_and]
   cases hd : st.2 i
   ·simp only [Bool.not_false, cond_true, cond_false]
    rw [sfield_ok hw hh hc]
    exact sfields_mark hw hh hi hc hI st.2
   ·rfl
  ·rw [decide_eq_false hc]
   rfl
 ·intro _
  have key : ∀ st : List (List Int) × (Nat → Bool), f_q17_n4 ((144 : Nat) : Int) w h f st.1 st.2 = some (.inr st.1) := fun st => by
   unfold f_q17_n4
   rw [show decide (((144 : Nat) : Int) < 144) = false from rfl, cond_false]
  rw [← fdA_def]
  generalize fdA w h f = st
  exact key st
end
end Go.RR
namespace Go.RR
open Go
def orF (m : Nat) (l : List Nat) : Nat := l.foldl (fun m k => m ||| 2 ^ k) m
theorem orF_bit (j : Nat) : ∀ (l : List Nat) (m : Nat), (orF m l).testBit j = (m.testBit j || l.contains j)
 | [], m => by simp [orF]
 | k :: l, m => by
  show (orF (m ||| 2 ^ k) l).testBit j = _
  rw [orF_bit j l, Nat.testBit_or, Nat.testBit_two_pow, List.contains_cons]
  by_cases e : k = j
  ·subst e; simp
  ·have : (j == k) = false := by simp; omega
   rw [this, decide_eq_false e]; simp
theorem orF_congr {l l' : List Nat} (h : ∀ j, j ∈ l ↔ j ∈ l') : orF 0 l = orF 0 l' := by
 apply Nat.eq_of_testBit_eq
 intro j
 rw [orF_bit, orF_bit]
 congr 1
 rw [Bool.eq_iff_iff, List.contains_iff_mem, List.contains_iff_mem]
 exact h j
theorem orF_lt : ∀ (l : List Nat) (m : Nat), m < 4096 → (∀ k ∈ l, k < 12) → orF m l < 4096
 | [], m, hm, _ => hm
 | k :: l, m, hm, h => by
  refine orF_lt l (m ||| 2 ^ k) ?_ fun j hj => h j (by simp [hj])
  exact Nat.or_lt_two_pow (n := 12) hm (Nat.pow_lt_pow_right (by decide) (h k (by simp)))
theorem shlN {q : Nat} (hq : q < 12) : bShl .u16 1 (q : Int) = ((2 ^ q : Nat) : Int) ∧ 1 ≤ 2 ^ q ∧ 2 ^ q ≤ 4096 := by
 have h1 : 2 ^ q ≤ 2 ^ 12 := Nat.pow_le_pow_right (by decide) (by omega)
 have h2 : 0 < 2 ^ q := Nat.pow_pos (by decide)
 have h1 : 2 ^ q ≤ 4096 := h1
 refine ⟨?_, h2, h1⟩
 unfold bShl
 have hm : min (Int.toNat (q : Int)) IntKind.u16.bits = q := by
  rw [toNat_nat]
  exact Nat.min_eq_left (by show q ≤ 16; omega)
 rw [hm, Int.one_mul, show ((2 : Int) ^ q) = ((2 ^ q : Nat) : Int) by rw [Int.natCast_pow]; rfl]
 exact IntWalk.u16_in _ (by omega)
theorem bor_ok {m k : Nat} (hm : m < 4096) (hk : k < 12) : bOr .u16 (m : Int) (bShl .u16 1 (k : Int)) = ((m ||| 2 ^ k : Nat) : Int) := by
 obtain ⟨h1, h2, h3⟩ := shlN hk
 rw [h1]
 unfold bOr
 have hlt : m ||| 2 ^ k < 2 ^ 13 := Nat.or_lt_two_pow (by omega) (by omega)
 have hlt : m ||| 2 ^ k < 8192 := hlt
 have e : ((BitVec.ofInt IntKind.u16.bits (m : Int) ||| BitVec.ofInt IntKind.u16.bits ((2 ^ k : Nat) : Int)).toNat : Int) = ((m ||| 2 ^ k : Nat) : Int) := by
  show ((BitVec.ofInt 16 (m : Int) ||| BitVec.ofInt 16 ((2 ^ k : Nat) : Int)).toNat : Int) = _
  rw [BitVec.toNat_or, BitVec.toNat_ofInt, BitVec.toNat_ofInt]
  have a : ((m : Int) % ((2 ^ 16 : Nat) : Int)).toNat = m := by
   have : ((2 ^ 16 : Nat) : Int) = 65536 := rfl
   rw [this]; omega
  have b : (((2 ^ k : Nat) : Int) % ((2 ^ 16 : Nat) : Int)).toNat = 2 ^ k := by
   have : ((2 ^ 16 : Nat) : Int) = 65536 := rfl
   rw [this]; omega
  rw [a, b]
 rw [e]
 exact IntWalk.u16_in _ (by omega)
theorem fold_inv {τ : Type} {g : τ → Nat → τ} {N : Nat} (I : Nat → τ → Prop) {st : τ} (h0 : I 0 st) (hs : ∀ i st, i < N → I i st → I (i + 1) (g st i)) : ∀ n, n ≤ N → I n ((List.range' 0 n).foldl g st)
 | 0, _ => h0
 | n + 1, h => by
  rw [List.range'_1_concat, List.foldl_append]
  have := hs n _ (by omega) (fold_inv I h0 hs n (by omega))
  simpa using this
section
variable {w h : Nat} (hw : w ≤ 12) (hh : h ≤ 12) {f : Nat → Int}
def rowN (w h : Nat) (f : Nat → Int) (s : Nat) : List Nat := listed fun k => (comp w h f s).contains k
def rowZ (w h : Nat) (f : Nat → Int) (s : Nat) : List Int := cst (rowN w h f s)
theorem rowN_len (w h : Nat) (f : Nat → Int) (s : Nat) : (rowN w h f s).length ≤ 144 := nodup_lenN (listed_nodup _) fun x hx => (listed_mem.1 hx).1
structure Parts (w h : Nat) (f : Nat → Int) (ss : List Nat) (n : Nat) : Prop where
 cell : ∀ s ∈ ss, isC w h s
 apart : ss.Pairwise fun s t => ∀ k, k ∈ comp w h f s → k ∉ comp w h f t
 all : ∀ k, k < n → isC w h k → ∃ s ∈ ss, k ∈ comp w h f s
 len : ss.length ≤ n
include hw hh
theorem parts_at : ∀ n, n ≤ 144 → ∃ ss, Parts w h f ss n ∧ ((List.range' 0 n).foldl (fdS w h f) ([], zB)).1 = ss.map (rowZ w h f) ∧ ((List.range' 0 n).foldl (fdS w h f) ([], zB)).2 = fun k => ss.any fun s => (comp w h f s).contains k := by
 refine fold_inv (τ := List (List Int) × (Nat → Bool)) (I := fun n st => ∃ ss : List Nat, Parts w h f ss n ∧ st.1 = ss.map (rowZ w h f) ∧ st.2 = fun k => ss.any fun s => (comp w h f s).contains k) ?_ ?_
 ·exact ⟨[], ⟨fun s hs => (by cases hs), List.Pairwise.nil, fun k hk => by omega, Nat.le_refl _⟩, rfl, rfl⟩
 ·rintro i ⟨o, d⟩ hi ⟨ss, hp, h1, h2⟩
  dsimp only at h1 h2
  subst h1 h2
  unfold fdS
  dsimp only
  by_cases hc : isC w h i
  ·rw [decide_eq_true hc, Bool.true_and]
   cases hd : ss.any fun s => (comp w h f s).contains i with
   | true =>
    rw [Bool.not_true, cond_false]
    refine ⟨ss, ⟨hp.cell, hp.apart, fun k hk hck => ?_, by have := hp.len; omega⟩, rfl, rfl⟩
    by_cases e : k = i
    ·subst e
     obtain ⟨s, hs, hm⟩ := List.any_eq_true.1 hd
     exact ⟨s, hs, by simpa using hm⟩
    ·exact hp.all k (by omega) hck
   | false =>
    rw [Bool.not_false, cond_true]
    refine ⟨ss ++ [i], ⟨fun s hs => ?_, ?_, fun k hk hck => ?_, by rw [List.length_append]; have := hp.len; simp; omega⟩, by simp [rowZ, rowN], by funext k; simp⟩
    ·rcases List.mem_append.1 hs with hs | hs
     ·exact hp.cell s hs
     ·rw [List.mem_singleton] at hs; subst hs; exact hc
    ·rw [List.pairwise_append]
     refine ⟨hp.apart, List.pairwise_singleton _ _, fun s hs t ht k hk hk2 => ?_⟩
     rw [List.mem_singleton] at ht; subst ht
     have hin := comp_meet hw hh (hp.cell s hs) hc hk hk2
     have : (ss.any fun s => (comp w h f s).contains t) = true := List.any_eq_true.2 ⟨s, hs, by simpa using hin⟩
     rw [this] at hd; cases hd
    ·by_cases e : k = i
     ·subst e; exact ⟨k, by simp, comp_self hw hh hc⟩
     ·obtain ⟨s, hs, hm⟩ := hp.all k (by omega) hck
      exact ⟨s, by simp [hs], hm⟩
  ·rw [decide_eq_false hc, Bool.false_and, cond_false]
   refine ⟨ss, ⟨hp.cell, hp.apart, fun k hk hck => ?_, by have := hp.len; omega⟩, rfl, rfl⟩
   by_cases e : k = i
   ·subst e; exact absurd hck hc
   ·exact hp.all k (by omega) hck
theorem parts_ok : ∃ ss, Parts w h f ss 144 ∧ (fdA w h f).1 = ss.map (rowZ w h f) := by
 obtain ⟨ss, h1, h2, _⟩ := parts_at hw hh (f := f) 144 (Nat.le_refl _)
 exact ⟨ss, h1, by rw [fdA_def]; exact h2⟩
theorem rowN_mem {s : Nat} (hs : isC w h s) {k : Nat} : k ∈ rowN w h f s ↔ k ∈ comp w h f s := by
 have := listed_comp hw hh (f := f) hs k
 unfold rowN
 rw [← List.contains_iff_mem, this, List.contains_iff_mem]
theorem rowN_lt {s : Nat} (hs : isC w h s) {k : Nat} (hk : k ∈ rowN w h f s) : k < 144 := comp_lt hw hh hs k ((rowN_mem hw hh hs).1 hk)
theorem rowN_pos {s : Nat} (hs : isC w h s) : 0 < (rowN w h f s).length := List.length_pos_of_mem ((rowN_mem hw hh hs).2 (comp_self hw hh hs))
theorem rowN_col {s : Nat} (hs : isC w h s) {k : Nat} (hk : k ∈ rowN w h f s) : f k = f s := (comp_ok hw hh hs).1.col k ((rowN_mem hw hh hs).1 hk)
theorem rowN_cell {s : Nat} (hs : isC w h s) {k : Nat} (hk : k ∈ rowN w h f s) : isC w h k := (comp_ok hw hh hs).1.cell k ((rowN_mem hw hh hs).1 hk)
end
end Go.RR
