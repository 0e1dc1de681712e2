/- Plain facts of fields: cells, neighbours, a field by rounds; what belongs to a field. No condition. -/
import Derived.Test.YtbmaolhjplapoaaGreatRy
import Derived.Test.YtbmaolhjplapoaaGreatFb
import Derived.Test.YtbmaolhjplapoaaGreatVb
set_option linter.unusedVariables false
set_option linter.unusedSimpArgs false
namespace Go.RR
open Go
open Go.IntKind (wrap)
def isC (w h k : Nat) : Prop := k % 12 < w ∧ k / 12 < h
instance (w h k : Nat) : Decidable (isC w h k) := by unfold isC; infer_instance
def nb (w h k : Nat) : List Nat := (if 0 < k / 12 then [k - 12] else []) ++ ((if 0 < k % 12 then [k - 1] else []) ++ ((if k % 12 + 1 < w then [k + 1] else []) ++ (if k / 12 + 1 < h then [k + 12] else [])))
theorem zBl {w h k n : Nat} : n ∈ nb w h k ↔ (0 < k / 12 ∧ n = k - 12) ∨ (0 < k % 12 ∧ n = k - 1) ∨ (k % 12 + 1 < w ∧ n = k + 1) ∨ (k / 12 + 1 < h ∧ n = k + 12) := by
 unfold nb
 simp only [List.mem_append]
 have e : ∀ (p : Prop) [Decidable p] (m : Nat), n ∈ (if p then [m] else []) ↔ p ∧ n = m := fun p _ m => by
  by_cases hp : p <;> simp [hp]
 rw [e, e, e, e]
theorem zre {w h k n : Nat} (hw : w ≤ 12) (hc : isC w h k) (hn : n ∈ nb w h k) : isC w h n := by
 unfold isC at *
 rcases zBl.1 hn with ⟨h1, rfl⟩ | ⟨h1, rfl⟩ | ⟨h1, rfl⟩ | ⟨h1, rfl⟩ <;> omega
theorem zUv {w h k n : Nat} (hw : w ≤ 12) (hc : isC w h k) (hn : n ∈ nb w h k) : k ∈ nb w h n := by
 unfold isC at *
 rw [zBl]
 rcases zBl.1 hn with ⟨h1, rfl⟩ | ⟨h1, rfl⟩ | ⟨h1, rfl⟩ | ⟨h1, rfl⟩ <;> omega
theorem ZC {w h k : Nat} (hh : h ≤ 12) (hc : isC w h k) : k < 144 := by unfold isC at hc; omega
theorem zOF (w h k : Nat) : (nb w h k).length ≤ 4 := by
 unfold nb
 simp only [List.length_append]
 have e : ∀ (p : Prop) [Decidable p] (m : Nat), (if p then [m] else []).length ≤ 1 := fun p _ m => by by_cases hp : p <;> simp [hp]
 have h1 := e (0 < k / 12) (k - 12)
 have h2 := e (0 < k % 12) (k - 1)
 have h3 := e (k % 12 + 1 < w) (k + 1)
 have h4 := e (k / 12 + 1 < h) (k + 12)
 omega
theorem Ym {l : List Nat} {N : Nat} (hn : l.Nodup) (h : ∀ x ∈ l, x < N) : l.length ≤ N := by
 have h2 : ((List.range N).filter fun x => l.contains x).Nodup := (List.filter_sublist).nodup List.nodup_range
 have hp : l.Perm ((List.range N).filter fun x => l.contains x) := (List.perm_ext_iff_of_nodup hn h2).2 fun a => by
  rw [List.mem_filter, List.mem_range]
  exact ⟨fun ha => ⟨h a ha, by simpa using ha⟩, fun ha => by simpa using ha.2⟩
 have := hp.length_eq
 have h3 := List.length_filter_le (fun x => l.contains x) (List.range N)
 rw [List.length_range] at h3
 omega
def listed (p : Nat → Bool) : List Nat := (List.range 144).filter p
theorem XH {p : Nat → Bool} {k : Nat} : k ∈ listed p ↔ k < 144 ∧ p k = true := by
 unfold listed
 rw [List.mem_filter, List.mem_range]
theorem Yi (p : Nat → Bool) : (listed p).Nodup := (List.filter_sublist).nodup List.nodup_range
def cst (l : List Nat) : List Int := l.map fun n : Nat => (n : Int)
theorem zB7 {l : List Nat} {x : Int} : x ∈ cst l ↔ ∃ n ∈ l, x = (n : Int) := by
 unfold cst
 rw [List.mem_map]
 exact ⟨fun ⟨n, h1, h2⟩ => ⟨n, h1, h2.symm⟩, fun ⟨n, h1, h2⟩ => ⟨n, h1, h2.symm⟩⟩
theorem zzd {q : List Nat} (hn : q.Nodup) (h : ∀ x ∈ q, x < 144) : (cst q).mergeSort (fun x y => decide (x ≤ y)) = cst (listed fun k => q.contains k) := by
 have hp : q.Perm (listed fun k => q.contains k) := (List.perm_ext_iff_of_nodup hn (Yi _)).2 fun a => by
  rw [XH]
  exact ⟨fun ha => ⟨h a ha, by simpa using ha⟩, fun ha => by simpa using ha.2⟩
 refine List.Perm.eq_of_pairwise (le := fun a b : Int => a ≤ b) (fun a b _ _ h1 h2 => Int.le_antisymm h1 h2) ?_ ?_ ((List.mergeSort_perm _ _).trans (hp.map _))
 ·have := List.pairwise_mergeSort (le := fun x y : Int => decide (x ≤ y)) (fun a b c h1 h2 => by
   simp only [decide_eq_true_eq] at *; omega) (fun a b => by
   by_cases hab : a ≤ b
   ·simp [hab]
   ·simp [show b ≤ a by omega]) (cst q)
  exact this.imp fun h => by simpa using h
 ·unfold cst listed
  rw [List.pairwise_map]
  exact (List.pairwise_lt_range.sublist List.filter_sublist).imp fun h => by omega
def adF (f : Nat → Int) (c : Int) (q : List Nat) (n : Nat) : List Nat := cond (f n == c) (cond (q.contains n) q (q ++ [n])) q
def Yp (w h : Nat) (f : Nat → Int) (c : Int) (q : List Nat) (i : Nat) : List Nat := (nb w h (q.getD i 0)).foldl (adF f c) q
def bfs (w h : Nat) (f : Nat → Int) (c : Int) : Nat → Nat → List Nat → List Nat
 | 0, _, q => q
 | m + 1, i, q => if i < q.length then bfs w h f c m (i + 1) (Yp w h f c q i) else q
structure BQ (w h : Nat) (f : Nat → Int) (s : Nat) (q : List Nat) : Prop where
 nd : q.Nodup
 cell : ∀ x ∈ q, isC w h x
 col : ∀ x ∈ q, f x = f s
 head : q.getD 0 0 = s ∧ 0 < q.length
 par : ∀ m, 0 < m → m < q.length → ∃ m', m' < m ∧ q.getD m 0 ∈ nb w h (q.getD m' 0)
theorem zd9 {q : List Nat} {n m : Nat} (h : m < q.length) : (q ++ [n]).getD m 0 = q.getD m 0 := by
 rw [List.getD_eq_getElem?_getD, List.getElem?_append_left h, ← List.getD_eq_getElem?_getD]
theorem zRI (q : List Nat) (n : Nat) : (q ++ [n]).getD q.length 0 = n := by
 rw [List.getD_eq_getElem?_getD, List.getElem?_append_right (Nat.le_refl _), Nat.sub_self]; rfl
theorem zoo (f : Nat → Int) (c : Int) (q : List Nat) (n : Nat) : (adF f c q n = q ∧ (f n = c → n ∈ q)) ∨ (adF f c q n = q ++ [n] ∧ f n = c ∧ n ∉ q) := by
 unfold adF
 by_cases h : f n = c
 ·rw [show (f n == c) = true by simp [h], cond_true]
  by_cases hq : n ∈ q
  ·left
   rw [show q.contains n = true by simpa using hq]
   exact ⟨rfl, fun _ => hq⟩
  ·right
   rw [show q.contains n = false by simpa using hq]
   exact ⟨rfl, h, hq⟩
 ·left
  rw [show (f n == c) = false by simp [h]]
  exact ⟨rfl, fun h' => absurd h' h⟩
theorem zAz {w h : Nat} (hw : w ≤ 12) {f : Nat → Int} {s : Nat} {q : List Nat} {i n : Nat} (hq : BQ w h f s q) (hi : i < q.length) (hn : n ∈ nb w h (q.getD i 0)) :
  BQ w h f s (adF f (f s) q n) ∧ (∃ t, adF f (f s) q n = q ++ t) ∧ (f n = f s → n ∈ adF f (f s) q n) := by
 rcases zoo f (f s) q n with ⟨e, h1⟩ | ⟨e, h1, h2⟩
 ·rw [e]; exact ⟨hq, ⟨[], by simp⟩, h1⟩
 ·rw [e]
  have hcell := zre hw (hq.cell _ (zR (d := 0) hi)) hn
  refine ⟨⟨?_, fun x hx => ?_, fun x hx => ?_, ⟨?_, by simp⟩, fun m h0 hm => ?_⟩, ⟨[n], rfl⟩, fun _ => by simp⟩
  ·exact List.nodup_append.2 ⟨hq.nd, by simp, fun a ha b hb => by rw [List.mem_singleton] at hb; subst hb; exact fun e => h2 (e ▸ ha)⟩
  ·rcases List.mem_append.1 hx with hx | hx
   ·exact hq.cell x hx
   ·rw [List.mem_singleton] at hx; subst hx; exact hcell
  ·rcases List.mem_append.1 hx with hx | hx
   ·exact hq.col x hx
   ·rw [List.mem_singleton] at hx; subst hx; exact h1
  ·rw [zd9 hq.head.2]; exact hq.head.1
  ·rw [List.length_append, List.length_singleton] at hm
   by_cases hm2 : m < q.length
   ·obtain ⟨m', p1, p2⟩ := hq.par m h0 hm2
    exact ⟨m', p1, by rw [zd9 hm2, zd9 (by omega)]; exact p2⟩
   ·obtain rfl : m = q.length := by omega
    exact ⟨i, hi, by rw [zRI, zd9 hi]; exact hn⟩
theorem zDp {w h : Nat} (hw : w ≤ 12) {f : Nat → Int} {s i : Nat} {x : Nat} : ∀ (ns : List Nat) (q : List Nat), BQ w h f s q → i < q.length → q.getD i 0 = x → (∀ n ∈ ns, n ∈ nb w h x) →
  BQ w h f s (ns.foldl (adF f (f s)) q) ∧ (∃ t, ns.foldl (adF f (f s)) q = q ++ t) ∧ ∀ n ∈ ns, f n = f s → n ∈ ns.foldl (adF f (f s)) q
 | [], q, hq, _, _, _ => ⟨hq, ⟨[], by simp⟩, fun n hn => by cases hn⟩
 | a :: ns, q, hq, hi, hx, hns => by
  obtain ⟨h1, ⟨t, ht⟩, h2⟩ := zAz hw hq hi (n := a) (by rw [hx]; exact hns a (by simp))
  have hi' : i < (adF f (f s) q a).length := by rw [ht, List.length_append]; omega
  have hx' : (adF f (f s) q a).getD i 0 = x := by
   rw [ht, List.getD_eq_getElem?_getD, List.getElem?_append_left hi, ← List.getD_eq_getElem?_getD]; exact hx
  obtain ⟨k1, ⟨t2, k2⟩, k3⟩ := zDp hw ns _ h1 hi' hx' fun n hn => hns n (by simp [hn])
  rw [List.foldl_cons]
  refine ⟨k1, ⟨t ++ t2, by rw [k2, ht, List.append_assoc]⟩, fun n hn hf => ?_⟩
  rcases List.mem_cons.1 hn with rfl | hn
  ·rw [k2]; exact List.mem_append.2 (.inl (h2 hf))
  ·exact k3 n hn hf
def zgh (w h : Nat) (f : Nat → Int) (s : Nat) (q : List Nat) (i : Nat) : Prop := ∀ m, m < i → m < q.length → ∀ n ∈ nb w h (q.getD m 0), f n = f s → n ∈ q
theorem zjF {w h : Nat} (hw : w ≤ 12) {f : Nat → Int} {s i : Nat} {q : List Nat} (hq : BQ w h f s q) (hi : i < q.length) (hc : zgh w h f s q i) :
  BQ w h f s (Yp w h f (f s) q i) ∧ zgh w h f s (Yp w h f (f s) q i) (i + 1) ∧ q.length ≤ (Yp w h f (f s) q i).length := by
 obtain ⟨h1, ⟨t, ht⟩, h3⟩ := zDp hw (nb w h (q.getD i 0)) q hq hi rfl fun n hn => hn
 unfold Yp
 refine ⟨h1, fun m hm hml n hn hf => ?_, by rw [ht, List.length_append]; omega⟩
 have hmq : m < q.length := by omega
 have e : ((nb w h (q.getD i 0)).foldl (adF f (f s)) q).getD m 0 = q.getD m 0 := by
  rw [ht, List.getD_eq_getElem?_getD, List.getElem?_append_left hmq, ← List.getD_eq_getElem?_getD]
 rw [e] at hn
 by_cases hmi : m = i
 ·subst hmi; exact h3 n hn hf
 ·rw [ht]; exact List.mem_append.2 (.inl (hc m (by omega) hmq n hn hf))
theorem zME {w h : Nat} (hw : w ≤ 12) (hh : h ≤ 12) {f : Nat → Int} {s : Nat} : ∀ (m i : Nat) (q : List Nat), BQ w h f s q → i ≤ q.length → 144 < i + m → zgh w h f s q i →
  BQ w h f s (bfs w h f (f s) m i q) ∧ zgh w h f s (bfs w h f (f s) m i q) (bfs w h f (f s) m i q).length
 | 0, i, q, hq, hi, hm, hc => by
  have := Ym hq.nd fun x hx => ZC hh (hq.cell x hx)
  omega
 | m + 1, i, q, hq, hi, hm, hc => by
  unfold bfs
  by_cases h1 : i < q.length
  ·rw [if_pos h1]
   obtain ⟨k1, k2, k3⟩ := zjF hw hq h1 hc
   exact zME hw hh m (i + 1) _ k1 (by omega) (by omega) k2
  ·rw [if_neg h1]
   obtain rfl : i = q.length := by omega
   exact ⟨hq, hc⟩
def xK (w h : Nat) (f : Nat → Int) (s : Nat) : List Nat := bfs w h f (f s) 145 0 [s]
theorem zku {w h : Nat} {f : Nat → Int} {s : Nat} (hs : isC w h s) : BQ w h f s [s] :=
 ⟨by simp, fun x hx => by rw [List.mem_singleton] at hx; subst hx; exact hs, fun x hx => by rw [List.mem_singleton] at hx; subst hx; rfl, ⟨rfl, by simp⟩, fun m h0 hm => by rw [List.length_singleton] at hm; omega⟩
theorem zbs {w h : Nat} (hw : w ≤ 12) (hh : h ≤ 12) {f : Nat → Int} {s : Nat} (hs : isC w h s) : BQ w h f s (xK w h f s) ∧ ∀ x ∈ xK w h f s, ∀ n ∈ nb w h x, f n = f s → n ∈ xK w h f s := by
 obtain ⟨h1, h2⟩ := zME hw hh 145 0 [s] (zku (f := f) hs) (by simp) (by omega) (fun m hm => by omega)
 refine ⟨h1, fun x hx n hn hf => ?_⟩
 obtain ⟨m, hm, rfl⟩ := List.getElem_of_mem hx
 refine h2 m hm hm n ?_ hf
 show n ∈ nb w h ((xK w h f s).getD m 0)
 rw [List.getD_eq_getElem?_getD, List.getElem?_eq_getElem hm]
 exact hn
theorem zHM {w h : Nat} (hw : w ≤ 12) (hh : h ≤ 12) {f : Nat → Int} {s : Nat} (hs : isC w h s) : s ∈ xK w h f s := by
 have hd := (zbs hw hh (f := f) hs).1.head
 have hm := zR (d := 0) hd.2
 rw [hd.1] at hm
 exact hm
theorem zJI {w h : Nat} (hw : w ≤ 12) (hh : h ≤ 12) {f : Nat → Int} {s t : Nat} (hs : isC w h s) (ht : isC w h t) {k : Nat} (h1 : k ∈ xK w h f s) (h2 : k ∈ xK w h f t) : t ∈ xK w h f s := by
 obtain ⟨b1, c1⟩ := zbs hw hh (f := f) hs
 obtain ⟨b2, c2⟩ := zbs hw hh (f := f) ht
 have hst : f t = f s := (b2.col k h2).symm.trans (b1.col k h1)
 have key : ∀ (m : Nat), m < (xK w h f t).length → (xK w h f t).getD m 0 ∈ xK w h f s → t ∈ xK w h f s := by
  intro m
  induction m using Nat.strongRecOn with
  | _ m ih =>
   intro hm hmem
   by_cases h0 : m = 0
   ·subst h0; rw [b2.head.1] at hmem; exact hmem
   ·obtain ⟨m', p1, p2⟩ := b2.par m (by omega) hm
    have hm' : m' < (xK w h f t).length := by omega
    have hx' := zR (d := 0) hm'
    have hsym := zUv hw (b2.cell _ hx') p2
    exact ih m' p1 hm' (c1 _ hmem _ hsym ((b2.col _ hx').trans hst))
 obtain ⟨m, hm, he⟩ := List.getElem_of_mem h2
 refine key m hm ?_
 rw [List.getD_eq_getElem?_getD, List.getElem?_eq_getElem hm]
 show (xK w h f t)[m] ∈ _
 rw [he]; exact h1
end Go.RR
namespace Go.RR
open Go
open Go.IntKind (wrap)
theorem zfX {σ ρ : Type} {step : σ → Option (σ ⊕ ρ)} {x y : σ} {m : Nat} (h : step x = some (.inl y)) : zI step (m + 1) x = zI step m y := by
 show (match step x with
  | none => none
  | some (.inl s') => zI step m s'
  | some (.inr r) => some r) = _
 rw [h]
theorem zsF {σ ρ : Type} {step : σ → Option (σ ⊕ ρ)} {x : σ} {r : ρ} {m : Nat} (h : step x = some (.inr r)) : zI step (m + 1) x = some r := by
 show (match step x with
  | none => none
  | some (.inl s') => zI step m s'
  | some (.inr r) => some r) = _
 rw [h]
theorem y6 (l : List Nat) : (cst l).length = l.length := by simp [cst]
theorem zbm (l : List Nat) (i : Nat) : (cst l).getD i 0 = ((l.getD i 0 : Nat) : Int) := by
 simp only [cst, List.getD_eq_getElem?_getD, List.getElem?_map]
 cases l[i]? <;> rfl
theorem zst (a b : List Nat) : cst (a ++ b) = cst a ++ cst b := by simp [cst]
theorem znP (k : Nat) : Int.tdiv (k : Int) 12 = ((k / 12 : Nat) : Int) := rfl
theorem zkN (k : Nat) : Int.tmod (k : Int) 12 = ((k % 12 : Nat) : Int) := rfl
theorem zo3 {x y : Int} {w h : Nat} (hw : w ≤ 12) (hh : h ≤ 12) : wd x y (w : Int) (h : Int) = decide ((0 ≤ x ∧ x < (w : Int)) ∧ (0 ≤ y ∧ y < (h : Int))) := by
 unfold wd yf
 rw [IntWalk.i64_in (w : Int) (by omega), IntWalk.i64_in (h : Int) (by omega), IntWalk.i64_in ((w : Int) - 1) (by omega), IntWalk.i64_in ((h : Int) - 1) (by omega)]
 by_cases a1 : 0 ≤ x <;> by_cases a2 : x ≤ (w : Int) - 1 <;> by_cases a3 : 0 ≤ y <;> by_cases a4 : y ≤ (h : Int) - 1 <;>
  simp [a1, a2, a3, a4, show (x < (w : Int)) ↔ (x ≤ (w : Int) - 1) by omega, show (y < (h : Int)) ↔ (y ≤ (h : Int) - 1) by omega]
noncomputable def zKm : Nat → Nat → Int := Wg (Wg (Wg (Wg zF2 0 (upd (upd zF 0 0) 1 (-1))) 1 (upd (upd zF 0 (-1)) 1 0)) 2 (upd (upd zF 0 1) 1 0)) 3 (upd (upd zF 0 0) 1 1)
theorem vf {w h k i : Nat} (hw : w ≤ 12) (hh : h ≤ 12) (hk : k < 144) (hi : i < 4) {dx dy : Int} (hx : zKm i 0 = dx) (hy : zKm i 1 = dy) (hdx : -1 ≤ dx ∧ dx ≤ 1) (hdy : -1 ≤ dy ∧ dy ≤ 1) {o : List Int} (ho : o.length ≤ 100) :
  Yw (k : Int) (w : Int) (h : Int) zKm (i : Int) o = some (.inl ((k : Int), (w : Int), (h : Int), zKm, ((i + 1 : Nat) : Int), o ++ cond (decide ((0 ≤ ((k % 12 : Nat) : Int) + dx ∧ ((k % 12 : Nat) : Int) + dx < (w : Int)) ∧ (0 ≤ ((k / 12 : Nat) : Int) + dy ∧ ((k / 12 : Nat) : Int) + dy < (h : Int)))) [(k : Int) + dx + 12 * dy] [])) := by
 unfold Yw uI
 try dsimp (config := {proj := false, iota := false, eta := false}) only
 rw [decide_eq_true (show (i : Int) < 4 by omega), zg hi, zd, show inB 0 2 = true from rfl, show inB 1 2 = true from rfl, hx, hy, zkN, znP, IntWalk.i64_in ((k / 12 : Nat) : Int) (by omega), IntWalk.i64_in (((k % 12 : Nat) : Int) + dx) (by omega), IntWalk.i64_in (((k / 12 : Nat) : Int) + dy) (by omega), zo3 hw hh, IntWalk.i64_in (12 * (((k / 12 : Nat) : Int) + dy)) (by omega), IntWalk.i64_in (((k % 12 : Nat) : Int) + dx + 12 * (((k / 12 : Nat) : Int) + dy)) (by omega), show ((k % 12 : Nat) : Int) + dx + 12 * (((k / 12 : Nat) : Int) + dy) = (k : Int) + dx + 12 * dy by omega, IntWalk.i64_in ((i : Int) + 1) (by omega), zG (by simp; omega)]
 simp only [cond_true]
 generalize (decide ((0 ≤ ((k % 12 : Nat) : Int) + dx ∧ ((k % 12 : Nat) : Int) + dx < (w : Int)) ∧ (0 ≤ ((k / 12 : Nat) : Int) + dy ∧ ((k / 12 : Nat) : Int) + dy < (h : Int)))) = b
 cases b <;> simp
theorem ziv {p : Prop} [Decidable p] {q : Prop} [Decidable q] (hpq : p ↔ q) {x : Int} {m : Nat} (hx : q → x = (m : Int)) : (cond (decide p) [x] [] : List Int) = cst (if q then [m] else []) := by
 by_cases hq : q
 ·rw [decide_eq_true (hpq.2 hq), if_pos hq, hx hq]; rfl
 ·rw [decide_eq_false (fun hp => hq (hpq.1 hp)), if_neg hq]; rfl
theorem zA1 {w h k : Nat} (hw : w ≤ 12) (hh : h ≤ 12) (hk : isC w h k) : znQ (k : Int) (w : Int) (h : Int) = some (cst (nb w h k)) := by
 have hk4 := ZC hh hk
 unfold isC at hk
 unfold znQ zmp zdQ
 try dsimp (config := {proj := false, iota := false, eta := false}) only
 obtain ⟨M, hM⟩ : ∃ M, FU = M + 1 + 1 + 1 + 1 + 1 := ⟨FU - 5, by have := yC (m := 5) (by decide); omega⟩
 rw [hM]
 have s0 := vf (i := 0) (k := k) hw hh hk4 (by omega) (dx := 0) (dy := -1) rfl rfl (by omega) (by omega) (o := []) (by simp)
 rw [ziv (q := 0 < k / 12) (m := k - 12) (by omega) (by omega)] at s0
 have l0 : (cst (if 0 < k / 12 then [k - 12] else [])).length ≤ 1 := by by_cases hq : 0 < k / 12 <;> simp [hq, cst]
 have s1 := vf (i := 1) (k := k) hw hh hk4 (by omega) (dx := -1) (dy := 0) rfl rfl (by omega) (by omega) (o := [] ++ cst (if 0 < k / 12 then [k - 12] else [])) (by simp only [List.nil_append]; omega)
 rw [ziv (q := 0 < k % 12) (m := k - 1) (by omega) (by omega)] at s1
 have l1 : (cst (if 0 < k % 12 then [k - 1] else [])).length ≤ 1 := by by_cases hq : 0 < k % 12 <;> simp [hq, cst]
 have s2 := vf (i := 2) (k := k) hw hh hk4 (by omega) (dx := 1) (dy := 0) rfl rfl (by omega) (by omega) (o := [] ++ cst (if 0 < k / 12 then [k - 12] else []) ++ cst (if 0 < k % 12 then [k - 1] else [])) (by simp only [List.nil_append, List.length_append]; omega)
 rw [ziv (q := k % 12 + 1 < w) (m := k + 1) (by omega) (by omega)] at s2
 have l2 : (cst (if k % 12 + 1 < w then [k + 1] else [])).length ≤ 1 := by by_cases hq : k % 12 + 1 < w <;> simp [hq, cst]
 have s3 := vf (i := 3) (k := k) hw hh hk4 (by omega) (dx := 0) (dy := 1) rfl rfl (by omega) (by omega) (o := [] ++ cst (if 0 < k / 12 then [k - 12] else []) ++ cst (if 0 < k % 12 then [k - 1] else []) ++ cst (if k % 12 + 1 < w then [k + 1] else [])) (by simp only [List.nil_append, List.length_append]; omega)
 rw [ziv (q := k / 12 + 1 < h) (m := k + 12) (by omega) (by omega)] at s3
 refine (zfX (step := fun x => Yw x.1 x.2.1 x.2.2.1 x.2.2.2.1 x.2.2.2.2.1 x.2.2.2.2.2) (x := ((k : Int), (w : Int), (h : Int), zKm, 0, [])) s0).trans ?_
 refine (zfX (step := fun x => Yw x.1 x.2.1 x.2.2.1 x.2.2.2.1 x.2.2.2.2.1 x.2.2.2.2.2) s1).trans ?_
 refine (zfX (step := fun x => Yw x.1 x.2.1 x.2.2.1 x.2.2.2.1 x.2.2.2.2.1 x.2.2.2.2.2) s2).trans ?_
 refine (zfX (step := fun x => Yw x.1 x.2.1 x.2.2.1 x.2.2.2.1 x.2.2.2.2.1 x.2.2.2.2.2) s3).trans ?_
 refine zsF ?_
 show Yw (k : Int) (w : Int) (h : Int) zKm 4 _ = _
 unfold Yw uI
 try dsimp (config := {proj := false, iota := false, eta := false}) only
 rw [show decide ((4 : Int) < 4) = false from rfl, cond_false]
 congr 2
 unfold nb
 simp only [zst, List.nil_append, List.append_assoc]
theorem zBs {w h k : Nat} (hw : w ≤ 12) (hh : h ≤ 12) {f : Nat → Int} (hk : isC w h k) : zlo (w : Int) (h : Int) f (k : Int) = some (cst (nb w h k)) := by
 have hk4 := ZC hh hk
 unfold isC at hk
 unfold zlo zjt nb
 try dsimp (config := {proj := false, iota := false, eta := false}) only
 rw [znP, zkN, IntWalk.i64_in ((k / 12 : Nat) : Int) (by omega), IntWalk.i64_in (((k / 12 : Nat) : Int) + 1) (by omega), IntWalk.i64_in (((k % 12 : Nat) : Int) + 1) (by omega), IntWalk.i64_in (w : Int) (by omega), IntWalk.i64_in (h : Int) (by omega), IntWalk.i64_in ((k : Int) - 12) (by omega), IntWalk.i64_in ((k : Int) - 1) (by omega), IntWalk.i64_in ((k : Int) + 1) (by omega), IntWalk.i64_in ((k : Int) + 12) (by omega)]
 have g1 : decide (((k / 12 : Nat) : Int) > 0) = decide (0 < k / 12) := decide_eq_decide.2 (by omega)
 have g2 : decide (((k % 12 : Nat) : Int) > 0) = decide (0 < k % 12) := decide_eq_decide.2 (by omega)
 have g3 : decide (((k % 12 : Nat) : Int) + 1 < (w : Int)) = decide (k % 12 + 1 < w) := decide_eq_decide.2 (by omega)
 have g4 : decide (((k / 12 : Nat) : Int) + 1 < (h : Int)) = decide (k / 12 + 1 < h) := decide_eq_decide.2 (by omega)
 rw [g1, g2, g3, g4]
 have e1 : 0 < k / 12 → (k : Int) - 12 = ((k - 12 : Nat) : Int) := fun _ => by omega
 have e2 : 0 < k % 12 → (k : Int) - 1 = ((k - 1 : Nat) : Int) := fun _ => by omega
 by_cases h1 : 0 < k / 12 <;> by_cases h2 : 0 < k % 12 <;> by_cases h3 : k % 12 + 1 < w <;> by_cases h4 : k / 12 + 1 < h <;>
  simp only [h1, h2, h3, h4, decide_true, decide_false, cond_true, cond_false, if_true, if_false, e1, e2, List.nil_append, List.append_nil, List.length_append, List.length_singleton, List.length_nil, show ∀ n : Nat, n ≤ 1000 → zW (n * 8) = true from fun n hn => zG (by omega), cst, List.map_append, List.map_cons, List.map_nil, List.append_assoc, List.cons_append, Nat.zero_add, show zW (1 * 8) = true from zG (by omega), show zW ((1 + 1) * 8) = true from zG (by omega), show zW ((1 + (1 + 1)) * 8) = true from zG (by omega), show zW ((1 + 1 + 1) * 8) = true from zG (by omega), show zW ((1 + 1 + 1 + 1) * 8) = true from zG (by omega)] <;> rfl
end Go.RR
namespace Go.RR
open Go
open Go.IntKind (wrap)
theorem zrI (q : List Nat) (n : Nat) : (cst q).contains (n : Int) = q.contains n := by
 rw [Bool.eq_iff_iff, List.contains_iff_mem, List.contains_iff_mem, zB7]
 exact ⟨fun ⟨m, h1, h2⟩ => by rw [show n = m by omega]; exact h1, fun h => ⟨n, h, rfl⟩⟩
theorem zwH {l : List Int} {n : Int} (hl : l.length ≤ 1000000) : zhc l n = some (l.contains n) := by
 have hs1 : ∀ i, i < l.length → Y5 n (l.length : Nat) i l = some (cond (n == l.getD i 0) (Sum.inr (i : Int)) (Sum.inl (n, ((l.length : Nat) : Int), ((i + 1 : Nat) : Int), l))) := by
  intro i hi
  unfold Y5
  rw [zD hi, zg hi, zd, zH (by omega)]
  simp only [cond_true]
  cases n == l.getD i 0 <;> rfl
 have he1 : Y5 n (l.length : Nat) (l.length : Nat) l = some (Sum.inr (-1)) := by
  unfold Y5
  rw [zS, cond_false]
 obtain ⟨r, h1, h2, _⟩ := zbr (step := fun x => Y5 x.1 x.2.1 x.2.2.1 x.2.2.2) l.length (fun i => (n, ((l.length : Nat) : Int), (i : Int), l)) (fun i => n == l.getD i 0) hs1 he1 l.length 0 FU (by omega) (yC (ym (by omega)))
 have h1 : zI (fun x => Y5 x.1 x.2.1 x.2.2.1 x.2.2.2) FU (n, ((l.length : Nat) : Int), 0, l) = some r := h1
 unfold zhc zhz zc3
 rw [h1]
 simp only [Option.bind]
 rw [h2, zkA 0 l (fun x => n == x), List.contains_eq_any_beq]
theorem zCo (f : Nat → Int) (c : Int) (q : List Nat) (n : Nat) : (adF f c q n).length ≤ q.length + 1 := by
 rcases zoo f c q n with ⟨e, _⟩ | ⟨e, _⟩ <;> rw [e] <;> simp
theorem ztk (q : List Nat) (n : Nat) : Xt (fun k => q.contains k) n true = fun k => (q ++ [n]).contains k := by
 funext k
 unfold Xt
 by_cases e : k = n
 ·subst e; rw [show Nat.beq k k = true from Nat.beq_refl k]; simp
 ·rw [show Nat.beq k n = false from xQ e]
  simp [e]
section
variable {w h : Nat} (hw : w ≤ 12) (hh : h ≤ 12) {f : Nat → Int} {s : Nat}
include hw hh
theorem zOm {q : List Nat} {i : Nat} (hq : BQ w h f s q) (hi : i < q.length) :
  uv ((i : Int), (((cst (nb w h (q.getD i 0))).length : Nat) : Int), 0, (w : Int), (h : Int), f, cst q, cst (nb w h (q.getD i 0))) = some (.inl (((i + 1 : Nat) : Int), (w : Int), (h : Int), f, cst (Yp w h f (f s) q i))) := by
 have hql := Ym hq.nd fun x hx => ZC hh (hq.cell x hx)
 generalize hx : q.getD i 0 = x
 have hnl := zOF w h x
 unfold uv
 have key := yK (step := fun x => wt x.1 x.2.1 x.2.2.1 x.2.2.2.1 x.2.2.2.2.1 x.2.2.2.2.2.1 x.2.2.2.2.2.2.1 x.2.2.2.2.2.2.2) (nb w h x).length (fun j t => ((i : Int), (((cst (nb w h x)).length : Nat) : Int), (j : Int), (w : Int), (h : Int), f, cst t, cst (nb w h x))) (fun t j => adF f (f s) t ((nb w h x).getD j 0)) (fun j t => BQ w h f s t ∧ i < t.length ∧ t.getD i 0 = x ∧ t.length ≤ 144 + j) (.inl (((i + 1 : Nat) : Int), (w : Int), (h : Int), f, cst (Yp w h f (f s) q i))) q (by omega) ⟨hq, hi, hx, by omega⟩ ?_ ?_
 ·exact key
 ·intro j t hj ⟨h1, h2, h3, h4⟩
  have hn := zR (d := 0) hj
  have hg := zbm (nb w h x) j
  have hjl : j < (cst (nb w h x)).length := by rw [y6]; exact hj
  have hil : i < (cst t).length := by rw [y6]; exact h2
  have hgt := zbm t i
  rw [h3] at hgt
  generalize (nb w h x).getD j 0 = n at hn hg ⊢
  obtain ⟨k1, ⟨u, k2⟩, _⟩ := zAz hw h1 h2 (n := n) (by rw [h3]; exact hn)
  have hadl := zCo f (f s) t n
  have hxm := zR (d := 0) h2
  rw [h3] at hxm
  have hxc := h1.cell _ hxm
  have hx4 := ZC hh hxc
  have hn4 := ZC hh (zre hw hxc hn)
  refine ⟨?_, k1, by rw [k2, List.length_append]; omega, by rw [k2, List.getD_eq_getElem?_getD, List.getElem?_append_left h2, ← List.getD_eq_getElem?_getD]; exact h3, by omega⟩
  show wt i ((cst (nb w h x)).length : Nat) j w h f (cst t) (cst (nb w h x)) = _
  unfold wt adF
  rw [zD hjl, zg hjl, zd, hg, zg hn4, zg hil, zd, hgt, zg hx4, zd, zd, h1.col x hxm, zwH (by rw [y6]; omega), zrI, IntWalk.i64_in ((j : Int) + 1) (by omega), zG (by rw [y6]; simp; omega)]
  simp only [cond_true, Option.bind]
  cases f n == f s
  ·rfl
  ·simp only [cond_true]
   cases t.contains n
   ·simp only [Bool.not_false, cond_true, cond_false]
    rw [zst]
    rfl
   ·rfl
 ·intro _
  rw [YF 0 (fun t n => adF f (f s) t n)]
  show wt i ((cst (nb w h x)).length : Nat) ((nb w h x).length : Nat) w h f _ (cst (nb w h x)) = _
  unfold wt
  rw [y6, zS, cond_false, IntWalk.i64_in ((i : Int) + 1) (by omega)]
  unfold Yp
  rw [hx]
  rfl
theorem zpM : ∀ (m i : Nat) (q : List Nat) (M : Nat), BQ w h f s q → i ≤ q.length → 144 < i + m → zgh w h f s q i → m < M →
  zI (fun x => Xp x.1 x.2.1 x.2.2.1 x.2.2.2.1 x.2.2.2.2) M ((i : Int), (w : Int), (h : Int), f, cst q) = some (cst (listed fun k => (bfs w h f (f s) m i q).contains k))
 | 0, i, q, _, hq, hi, hm, hc, _ => by
  have := Ym hq.nd fun x hx => ZC hh (hq.cell x hx)
  omega
 | m + 1, i, q, M + 1, hq, hi, hm, hc, hM => by
  have hql := Ym hq.nd fun x hx => ZC hh (hq.cell x hx)
  unfold bfs
  by_cases h1 : i < q.length
  ·rw [if_pos h1]
   obtain ⟨k1, k2, k3⟩ := zjF hw hq h1 hc
   have hil : i < (cst q).length := by rw [y6]; exact h1
   have hcell := hq.cell _ (zR (d := 0) h1)
   have hs : Xp (i : Int) (w : Int) (h : Int) f (cst q) = some (.inl (((i + 1 : Nat) : Int), (w : Int), (h : Int), f, cst (Yp w h f (f s) q i))) := by
    unfold Xp
    rw [zD hil, zg hil, zd, zbm, zA1 hw hh hcell]
    simp only [cond_true, Option.bind]
    exact zOm hw hh hq h1
   rw [zfX (step := fun x => Xp x.1 x.2.1 x.2.2.1 x.2.2.2.1 x.2.2.2.2) (x := ((i : Int), (w : Int), (h : Int), f, cst q)) hs]
   exact zpM m (i + 1) _ M k1 (by omega) (by omega) k2 (by omega)
  ·rw [if_neg h1]
   obtain rfl : i = q.length := by omega
   refine zsF ?_
   show Xp (q.length : Nat) (w : Int) (h : Int) f (cst q) = _
   unfold Xp zbR
   have h0 := hq.head.2
   rw [y6, zS, cond_false, show Nat.blt 0 q.length = true from Nat.ble_eq_true_of_le h0, show Nat.ble q.length 1000000 = true by rw [Nat.ble_eq]; omega, zzd hq.nd fun x hx => ZC hh (hq.cell x hx)]
   rfl
 | _ + 1, _, _, 0, _, _, _, _, hM => by omega
theorem zG8 (hs : isC w h s) : zhn (w : Int) (h : Int) f ((s % 12 : Nat) : Int) ((s / 12 : Nat) : Int) = some (cst (listed fun k => (xK w h f s).contains k)) := by
 have hs4 := ZC hh hs
 unfold zhn zdx
 rw [IntWalk.i64_in (12 * ((s / 12 : Nat) : Int)) (by omega), IntWalk.i64_in _ (by omega), show ((s % 12 : Nat) : Int) + 12 * ((s / 12 : Nat) : Int) = (s : Int) by omega]
 exact zpM hw hh 145 0 [s] FU (zku hs) (by simp) (by omega) (fun m hm => by omega) (yC (ym (by omega)))
theorem zJz {q : List Nat} {i : Nat} (hs : isC w h s) (hq : BQ w h f s q) (hi : i < q.length) {z : Nat → Bool} :
  uq ((s : Int), (i : Int), 0, (w : Int), (h : Int), f, z, (fun k => q.contains k), cst q, cst (nb w h (q.getD i 0))) = some (.inl ((s : Int), ((i + 1 : Nat) : Int), (w : Int), (h : Int), f, z, (fun k => (Yp w h f (f s) q i).contains k), cst (Yp w h f (f s) q i))) := by
 have hs4 := ZC hh hs
 have hql := Ym hq.nd fun x hx => ZC hh (hq.cell x hx)
 generalize hx : q.getD i 0 = x
 have hnl := zOF w h x
 unfold uq
 have key := yK (step := fun x => wy x.1 x.2.1 x.2.2.1 x.2.2.2.1 x.2.2.2.2.1 x.2.2.2.2.2.1 x.2.2.2.2.2.2.1 x.2.2.2.2.2.2.2.1 x.2.2.2.2.2.2.2.2.1 x.2.2.2.2.2.2.2.2.2) (nb w h x).length (fun j t => ((s : Int), (i : Int), (j : Int), (w : Int), (h : Int), f, z, (fun k => t.contains k), cst t, cst (nb w h x))) (fun t j => adF f (f s) t ((nb w h x).getD j 0)) (fun j t => BQ w h f s t ∧ i < t.length ∧ t.getD i 0 = x ∧ t.length ≤ 144 + j) (.inl ((s : Int), ((i + 1 : Nat) : Int), (w : Int), (h : Int), f, z, (fun k => (Yp w h f (f s) q i).contains k), cst (Yp w h f (f s) q i))) q (by omega) ⟨hq, hi, hx, by omega⟩ ?_ ?_
 ·exact key
 ·intro j t hj ⟨h1, h2, h3, h4⟩
  have hn := zR (d := 0) hj
  have hg := zbm (nb w h x) j
  have hjl : j < (cst (nb w h x)).length := by rw [y6]; exact hj
  generalize (nb w h x).getD j 0 = n at hn hg ⊢
  obtain ⟨k1, ⟨u, k2⟩, _⟩ := zAz hw h1 h2 (n := n) (by rw [h3]; exact hn)
  have hadl := zCo f (f s) t n
  have hxm := zR (d := 0) h2
  rw [h3] at hxm
  have hxc := h1.cell _ hxm
  have hn4 := ZC hh (zre hw hxc hn)
  refine ⟨?_, k1, by rw [k2, List.length_append]; omega, by rw [k2, List.getD_eq_getElem?_getD, List.getElem?_append_left h2, ← List.getD_eq_getElem?_getD]; exact h3, by omega⟩
  show wy s i j w h f z (fun k => t.contains k) (cst t) (cst (nb w h x)) = _
  unfold wy adF
  rw [zD hjl, zg hjl, zd, hg, zg hn4, zg hs4, zd, zd, IntWalk.i64_in ((j : Int) + 1) (by omega), zG (by rw [y6]; simp; omega)]
  simp only [cond_true]
  by_cases hc : t.contains n = true
  ·rw [hc]
   cases f n == f s <;> rfl
  ·rw [Bool.not_eq_true] at hc
   rw [hc]
   cases f n == f s
   ·rfl
   ·simp only [Bool.not_false, cond_true, cond_false]
    rw [zst, ztk]
    rfl
 ·intro _
  rw [YF 0 (fun t n => adF f (f s) t n)]
  show wy s i ((nb w h x).length : Nat) w h f z _ _ (cst (nb w h x)) = _
  unfold wy
  rw [y6, zS, cond_false, IntWalk.i64_in ((i : Int) + 1) (by omega)]
  unfold Yp
  rw [hx]
  rfl
theorem zjx (hs : isC w h s) {z : Nat → Bool} : ∀ (m i : Nat) (q : List Nat) (M : Nat), BQ w h f s q → i ≤ q.length → 144 < i + m → zgh w h f s q i → m < M →
  zI (fun x => Xi x.1 x.2.1 x.2.2.1 x.2.2.2.1 x.2.2.2.2.1 x.2.2.2.2.2.1 x.2.2.2.2.2.2.1 x.2.2.2.2.2.2.2) M ((s : Int), (i : Int), (w : Int), (h : Int), f, z, (fun k => q.contains k), cst q) = some (fun k => (bfs w h f (f s) m i q).contains k)
 | 0, i, q, _, hq, hi, hm, hc, _ => by
  have := Ym hq.nd fun x hx => ZC hh (hq.cell x hx)
  omega
 | m + 1, i, q, M + 1, hq, hi, hm, hc, hM => by
  unfold bfs
  by_cases h1 : i < q.length
  ·rw [if_pos h1]
   obtain ⟨k1, k2, k3⟩ := zjF hw hq h1 hc
   have hil : i < (cst q).length := by rw [y6]; exact h1
   have hcell := hq.cell _ (zR (d := 0) h1)
   have hst : Xi (s : Int) (i : Int) (w : Int) (h : Int) f z (fun k => q.contains k) (cst q) = some (.inl ((s : Int), ((i + 1 : Nat) : Int), (w : Int), (h : Int), f, z, (fun k => (Yp w h f (f s) q i).contains k), cst (Yp w h f (f s) q i))) := by
    unfold Xi
    rw [zD hil, zg hil, zd, zbm, zBs hw hh hcell]
    simp only [cond_true, Option.bind]
    exact zJz hw hh hs hq h1
   rw [zfX (step := fun x => Xi x.1 x.2.1 x.2.2.1 x.2.2.2.1 x.2.2.2.2.1 x.2.2.2.2.2.1 x.2.2.2.2.2.2.1 x.2.2.2.2.2.2.2) (x := ((s : Int), (i : Int), (w : Int), (h : Int), f, z, (fun k => q.contains k), cst q)) hst]
   exact zjx hs m (i + 1) _ M k1 (by omega) (by omega) k2 (by omega)
  ·rw [if_neg h1]
   obtain rfl : i = q.length := by omega
   refine zsF ?_
   show Xi (s : Int) (q.length : Nat) (w : Int) (h : Int) f z (fun k => q.contains k) (cst q) = _
   unfold Xi
   rw [y6, zS, cond_false]
 | _ + 1, _, _, 0, _, _, _, _, hM => by omega
theorem zJy (hs : isC w h s) : zgU (w : Int) (h : Int) f (s : Int) = some (fun k => (xK w h f s).contains k) := by
 have hs4 := ZC hh hs
 unfold zgU zd3
 rw [zg hs4, cond_true, zd]
 have e : Xt zB s true = fun k => ([s] : List Nat).contains k := by
  have := ztk [] s
  rw [List.nil_append] at this
  rw [← this]
  congr 1
 rw [e]
 exact zjx hw hh hs 145 0 [s] FU (zku hs) (by simp) (by omega) (fun m hm => by omega) (yC (ym (by omega)))
end
end Go.RR
namespace Go.RR
open Go
open Go.IntKind (wrap)
theorem zGY (p : Nat → Bool) : zgX p = some (cst (listed p)) := by
 have hf : ∀ (l : List Nat) (st : List Int), l.foldl (fun st i => cond (p i) (st ++ [(i : Int)]) st) st = st ++ cst (l.filter p) := by
  intro l
  induction l with
  | nil => intro st; simp [cst]
  | cons a l ih =>
   intro st
   rw [List.foldl_cons, ih, List.filter_cons]
   cases p a <;> simp [cst]
 unfold zgX zcV
 refine (yK (step := fun x => wT x.1 x.2.1 x.2.2) 144 (fun i st => ((i : Int), p, st)) (fun st i => cond (p i) (st ++ [(i : Int)]) st) (fun i st => st.length ≤ i) (cst (listed p)) [] (by omega) (by simp) ?_ ?_).trans rfl
 ·intro i st hi hI
  refine ⟨?_, by cases p i <;> simp <;> omega⟩
  show wT (i : Int) p st = _
  unfold wT
  rw [decide_eq_true (show (i : Int) < 144 by omega), zg hi, zd, zG (by simp; omega), IntWalk.i64_in ((i : Int) + 1) (by omega)]
  simp only [cond_true]
  cases p i <;> rfl
 ·intro _
  rw [hf]
  show wT 144 p _ = _
  unfold wT
  rw [show decide ((144 : Int) < 144) = false from rfl, cond_false, List.nil_append]
  unfold listed
  rw [List.range_eq_range']
def fdS (w h : Nat) (f : Nat → Int) (st : List (List Int) × (Nat → Bool)) (i : Nat) : List (List Int) × (Nat → Bool) :=
 cond (decide (isC w h i) && !st.2 i) (st.1 ++ [cst (listed fun k => (xK w h f i).contains k)], fun k => st.2 k || (xK w h f i).contains k) st
def fdA (w h : Nat) (f : Nat → Int) : List (List Int) × (Nat → Bool) := (List.range' 0 144).foldl (fdS w h f) ([], zB)
theorem zr2 (w h : Nat) (f : Nat → Int) : fdA w h f = (List.range' 0 144).foldl (fdS w h f) ([], zB) := rfl
theorem zEf (w h : Nat) (f : Nat → Int) (st : List (List Int) × (Nat → Bool)) (i : Nat) : (fdS w h f st i).1.length ≤ st.1.length + 1 := by
 unfold fdS
 cases decide (isC w h i) && !st.2 i <;> simp
theorem zSE (l : List Nat) : ∀ d : Nat → Bool, l.foldl (fun d n => Xt d n true) d = fun k => d k || l.contains k := by
 induction l with
 | nil => intro d; funext k; simp
 | cons a l ih =>
  intro d
  rw [List.foldl_cons, ih]
  funext k
  unfold Xt
  by_cases e : k = a
  ·subst e; rw [show Nat.beq k k = true from Nat.beq_refl k]; simp
  ·rw [show Nat.beq k a = false from xQ e]; simp [e]
theorem zUa (z : Nat → Bool) (l : List Nat) : ∀ d : Nat → Bool, l.foldl (fun d n => Xt d n (d n || z n)) d = fun k => d k || (l.contains k && z k) := by
 induction l with
 | nil => intro d; funext k; simp
 | cons a l ih =>
  intro d
  rw [List.foldl_cons, ih]
  funext k
  unfold Xt
  by_cases e : k = a
  ·subst e
   rw [show Nat.beq k k = true from Nat.beq_refl k]
   cases d k <;> cases z k <;> simp
  ·rw [show Nat.beq k a = false from xQ e]; simp [e]
theorem zyO {w h i : Nat} (hw : w ≤ 12) (hh : h ≤ 12) (f : Nat → Int) (hi : i < 144) : vn (w : Int) (h : Int) f (Int.tmod (i : Int) 12) (wrap .i64 (Int.tdiv (i : Int) 12)) = decide (isC w h i) := by
 unfold vn
 rw [znP, zkN, IntWalk.i64_in ((i / 12 : Nat) : Int) (by omega), zo3 hw hh]
 exact decide_eq_decide.2 (by unfold isC; omega)
theorem zp6 {w h i : Nat} (hw : w ≤ 12) (hh : h ≤ 12) (f : Nat → Int) (hi : i < 144) : YP (w : Int) (h : Int) f (i : Int) = decide (isC w h i) := by
 have h0 : zK (i : Int) 0 143 = true := by
  unfold zK
  rw [decide_eq_true (show (0 : Int) ≤ (i : Int) by omega), cond_true, decide_eq_true (show (i : Int) ≤ 143 by omega)]
 unfold YP
 rw [h0, cond_true, znP, zkN, IntWalk.i64_in ((i / 12 : Nat) : Int) (by omega), IntWalk.i64_in (w : Int) (by omega), IntWalk.i64_in (h : Int) (by omega)]
 rw [Bool.eq_iff_iff, decide_eq_true_eq]
 unfold isC
 by_cases h1 : i % 12 < w
 ·rw [decide_eq_true (show ((i % 12 : Nat) : Int) < (w : Int) by omega), cond_true, decide_eq_true_eq]; omega
 ·rw [decide_eq_false (show ¬ ((i % 12 : Nat) : Int) < (w : Int) by omega), cond_false]
  simp [h1]
section
variable {w h : Nat} (hw : w ≤ 12) (hh : h ≤ 12) {f : Nat → Int}
include hw hh
theorem zqm {s : Nat} (hs : isC w h s) : ∀ x ∈ xK w h f s, x < 144 := fun x hx => ZC hh ((zbs hw hh hs).1.cell x hx)
theorem zhs {s : Nat} (hs : isC w h s) (k : Nat) : (listed fun k => (xK w h f s).contains k).contains k = (xK w h f s).contains k := by
 rw [Bool.eq_iff_iff, List.contains_iff_mem, XH]
 exact ⟨fun h => h.2, fun h => ⟨zqm hw hh hs k (by simpa using h), h⟩⟩
theorem zqZ {i : Nat} (hi : i < 144) (hc : isC w h i) {o : List (List Int)} (ho : o.length ≤ i) (d : Nat → Bool) :
  uV ((i : Int), (((cst (listed fun k => (xK w h f i).contains k)).length : Nat) : Int), 0, (w : Int), (h : Int), f, o, d, cst (listed fun k => (xK w h f i).contains k)) = some (.inl (((i + 1 : Nat) : Int), (w : Int), (h : Int), f, o ++ [cst (listed fun k => (xK w h f i).contains k)], fun k => d k || (xK w h f i).contains k)) := by
 have hlm : ∀ x ∈ listed fun k => (xK w h f i).contains k, x < 144 := fun x hx => (XH.1 hx).1
 have hll := Ym (Yi fun k => (xK w h f i).contains k) hlm
 have hcon := zhs hw hh (f := f) hc
 generalize (listed fun k => (xK w h f i).contains k) = l at *
 unfold uV
 refine (yK (step := fun x => wC x.1 x.2.1 x.2.2.1 x.2.2.2.1 x.2.2.2.2.1 x.2.2.2.2.2.1 x.2.2.2.2.2.2.1 x.2.2.2.2.2.2.2.1 x.2.2.2.2.2.2.2.2) l.length (fun j d => ((i : Int), (((cst l).length : Nat) : Int), (j : Int), (w : Int), (h : Int), f, o, d, cst l)) (fun d j => Xt d (l.getD j 0) true) (fun _ _ => True) _ d (by omega) trivial ?_ ?_).trans rfl
 ·intro j d hj _
  refine ⟨?_, trivial⟩
  have hjl : j < (cst l).length := by rw [y6]; exact hj
  have hx4 := hlm _ (zR (d := 0) hj)
  show wC (i : Int) ((cst l).length : Nat) (j : Int) w h f o d (cst l) = _
  unfold wC
  rw [zD hjl, zg hjl, zd, zbm, zg hx4, zd, IntWalk.i64_in ((j : Int) + 1) (by omega)]
  rfl
 ·intro _
  rw [YF 0 (fun d n => Xt d n true), zSE]
  show wC (i : Int) ((cst l).length : Nat) (l.length : Nat) w h f o _ (cst l) = _
  unfold wC
  rw [y6, zS, cond_false, zG (by simp; omega), IntWalk.i64_in ((i : Int) + 1) (by omega), cond_true]
  simp only [hcon]
  rfl
theorem zAL : zfy (w : Int) (h : Int) f = some (fdA w h f).1 := by
 unfold zfy zcO
 refine (yK (step := fun x => X9 x.1 x.2.1 x.2.2.1 x.2.2.2.1 x.2.2.2.2.1 x.2.2.2.2.2) 144 (fun i st => ((i : Int), (w : Int), (h : Int), f, st.1, st.2)) (fdS w h f) (fun i st => st.1.length ≤ i) (fdA w h f).1 ([], zB) (by omega) (by simp) ?_ ?_).trans rfl
 ·intro i st hi hI
  have hl := zEf w h f st i
  refine ⟨?_, by omega⟩
  show X9 (i : Int) w h f st.1 st.2 = _
  unfold X9 fdS
  rw [decide_eq_true (show (i : Int) < 144 by omega), zyO hw hh f hi, zg hi, zd, IntWalk.i64_in ((i : Int) + 1) (by omega)]
  simp only [cond_true]
  by_cases hc : isC w h i
  ·rw [decide_eq_true hc]
   simp only [Bool.not_true, cond_false, Bool.true_and]
   cases hd : st.2 i
   ·simp only [Bool.not_false, cond_true, cond_false]
    rw [znP, zkN, IntWalk.i64_in ((i / 12 : Nat) : Int) (by omega), zG8 hw hh hc]
    exact zqZ hw hh hi hc hI st.2
   ·rfl
  ·rw [decide_eq_false hc]
   rfl
 ·intro _
  have key : ∀ st : List (List Int) × (Nat → Bool), X9 ((144 : Nat) : Int) w h f st.1 st.2 = some (.inr st.1) := fun st => by
   unfold X9
   rw [show decide (((144 : Nat) : Int) < 144) = false from rfl, cond_false]
  rw [← zr2]
  generalize fdA w h f = st
  exact key st
theorem zsz {i : Nat} (hi : i < 144) (hc : isC w h i) {o : List (List Int)} (ho : o.length ≤ i) (d : Nat → Bool) :
  um ((i : Int), 0, (w : Int), (h : Int), f, o, d, fun k => (xK w h f i).contains k) = some (.inl (((i + 1 : Nat) : Int), (w : Int), (h : Int), f, o ++ [cst (listed fun k => (xK w h f i).contains k)], fun k => d k || (xK w h f i).contains k)) := by
 have hlt := zqm hw hh (f := f) hc
 have hz : ∀ k, (144 ≤ k) → (xK w h f i).contains k = false := fun k hk => by
  rw [Bool.eq_false_iff]
  intro e
  have := hlt k (by simpa using e)
  omega
 generalize hzz : (fun k => (xK w h f i).contains k) = z
 have hz : ∀ k, 144 ≤ k → z k = false := fun k hk => by rw [← hzz]; exact hz k hk
 have hd' : ∀ k, (xK w h f i).contains k = z k := fun k => by rw [← hzz]
 simp only [hd']
 unfold um
 refine (yK (step := fun x => wD x.1 x.2.1 x.2.2.1 x.2.2.2.1 x.2.2.2.2.1 x.2.2.2.2.2.1 x.2.2.2.2.2.2.1 x.2.2.2.2.2.2.2) 144 (fun j d => ((i : Int), (j : Int), (w : Int), (h : Int), f, o, d, z)) (fun d j => Xt d j (d j || z j)) (fun _ _ => True) _ d (by omega) trivial ?_ ?_).trans rfl
 ·intro j d hj _
  refine ⟨?_, trivial⟩
  show wD (i : Int) (j : Int) w h f o d z = _
  unfold wD
  rw [decide_eq_true (show (j : Int) < 144 by omega), zg hj, zd, IntWalk.i64_in ((j : Int) + 1) (by omega)]
  simp only [cond_true]
  cases d j <;> rfl
 ·intro _
  rw [zUa]
  show wD (i : Int) 144 w h f o _ z = _
  unfold wD
  rw [show decide ((144 : Int) < 144) = false from rfl, cond_false, zGY]
  simp only [Option.bind]
  rw [zG (by simp; omega), IntWalk.i64_in ((i : Int) + 1) (by omega), cond_true]
  congr 8
  funext k
  by_cases hk : k < 144
  ·rw [show (List.range' 0 144).contains k = true by simp [List.mem_range'_1]; omega, Bool.true_and]
  ·rw [hz k (by omega), Bool.and_false]
theorem zBc : zfB (w : Int) (h : Int) f = some (fdA w h f).1 := by
 unfold zfB zdl
 refine (yK (step := fun x => wR x.1 x.2.1 x.2.2.1 x.2.2.2.1 x.2.2.2.2.1 x.2.2.2.2.2) 144 (fun i st => ((i : Int), (w : Int), (h : Int), f, st.1, st.2)) (fdS w h f) (fun i st => st.1.length ≤ i) (fdA w h f).1 ([], zB) (by omega) (by simp) ?_ ?_).trans rfl
 ·intro i st hi hI
  have hl := zEf w h f st i
  refine ⟨?_, by omega⟩
  show wR (i : Int) w h f st.1 st.2 = _
  unfold wR fdS
  rw [decide_eq_true (show (i : Int) < 144 by omega), zp6 hw hh f hi, zg hi, zd, IntWalk.i64_in ((i : Int) + 1) (by omega)]
  simp only [cond_true]
  by_cases hc : isC w h i
  ·rw [decide_eq_true hc]
   simp only [Bool.not_true, cond_false, Bool.true_and]
   cases hd : st.2 i
   ·simp only [Bool.not_false, cond_true, cond_false]
    rw [zJy hw hh hc]
    exact zsz hw hh hi hc hI st.2
   ·rfl
  ·rw [decide_eq_false hc]
   rfl
 ·intro _
  have key : ∀ st : List (List Int) × (Nat → Bool), wR ((144 : Nat) : Int) w h f st.1 st.2 = some (.inr st.1) := fun st => by
   unfold wR
   rw [show decide (((144 : Nat) : Int) < 144) = false from rfl, cond_false]
  rw [← zr2]
  generalize fdA w h f = st
  exact key st
end
end Go.RR
namespace Go.RR
open Go
open Go.IntKind (wrap)
def xI (t : Nat → Int) : Prop := ∀ k, 0 ≤ t k ∧ t k ≤ 255
def sq (a : Int) : Int := a * a
theorem zdY {a : Int} (h : -255 ≤ a ∧ a ≤ 255) : 0 ≤ sq a ∧ sq a ≤ 65025 := by
 unfold sq
 have e : (a * a).natAbs = a.natAbs * a.natAbs := Int.natAbs_mul a a
 have h1 : a.natAbs ≤ 255 := by omega
 have h2 : a.natAbs * a.natAbs ≤ 255 * 255 := Nat.mul_le_mul h1 h1
 have h3 : 0 ≤ a * a := by
  rw [← Int.natAbs_mul_self' a]
  omega
 omega
def far (a b : Nat → Int) : Int := 3 * sq (a 0 - b 0) + 6 * sq (a 1 - b 1) + sq (a 2 - b 2)
theorem zbT {a b : Nat → Int} (ha : xI a) (hb : xI b) (k : Nat) : -255 ≤ a k - b k ∧ a k - b k ≤ 255 := by
 have := ha k; have := hb k; omega
theorem zTa {a b : Nat → Int} (ha : xI a) (hb : xI b) : 0 ≤ far a b ∧ far a b ≤ 1000000 := by
 have h0 := zdY (zbT ha hb 0); have h1 := zdY (zbT ha hb 1); have h2 := zdY (zbT ha hb 2)
 unfold far; omega
theorem zAG (a b : Int) : sq (a - b) = sq (b - a) := by
 unfold sq
 rw [← Int.neg_mul_neg, Int.neg_sub]
theorem zCJ (a b : Nat → Int) : far a b = far b a := by
 unfold far
 rw [zAG (a 0), zAG (a 1), zAG (a 2)]
theorem zUP {d : Int} (h : -255 ≤ d ∧ d ≤ 255) (c : Int) (hc : 1 ≤ c ∧ c ≤ 6) : wrap .i64 (c * d) = c * d ∧ wrap .i64 (c * d * d) = c * sq d := by
 have hs := zdY h
 have h1 : -1530 ≤ c * d ∧ c * d ≤ 1530 := by
  rcases (show c = 1 ∨ c = 2 ∨ c = 3 ∨ c = 4 ∨ c = 5 ∨ c = 6 by omega) with rfl | rfl | rfl | rfl | rfl | rfl <;> omega
 refine ⟨IntWalk.i64_in _ (by omega), ?_⟩
 rw [Int.mul_assoc]
 show wrap .i64 (c * sq d) = c * sq d
 refine IntWalk.i64_in _ ?_
 rcases (show c = 1 ∨ c = 2 ∨ c = 3 ∨ c = 4 ∨ c = 5 ∨ c = 6 by omega) with rfl | rfl | rfl | rfl | rfl | rfl <;> omega
theorem zuI {a b : Nat → Int} (ha : xI a) (hb : xI b) : wrap .i64 (wrap .i64 (wrap .i64 (wrap .i64 (3 * (a 0 - b 0)) * (a 0 - b 0)) + wrap .i64 (wrap .i64 (6 * (a 1 - b 1)) * (a 1 - b 1))) + wrap .i64 ((a 2 - b 2) * (a 2 - b 2))) = far a b := by
 have h0 := zbT ha hb 0; have h1 := zbT ha hb 1; have h2 := zbT ha hb 2
 have q0 := zdY h0; have q1 := zdY h1; have q2 := zdY h2
 obtain ⟨e1, e2⟩ := zUP h0 3 (by omega)
 obtain ⟨e3, e4⟩ := zUP h1 6 (by omega)
 rw [e1, e2, e3, e4, show (a 2 - b 2) * (a 2 - b 2) = sq (a 2 - b 2) from rfl, IntWalk.i64_in (sq (a 2 - b 2)) (by omega), IntWalk.i64_in (3 * sq (a 0 - b 0) + 6 * sq (a 1 - b 1)) (by omega), IntWalk.i64_in _ (by omega)]
 rfl
theorem zbv {a b : Nat → Int} (ha : xI a) (hb : xI b) (k : Nat) : wrap .i64 (wrap .i64 (a k) - wrap .i64 (b k)) = a k - b k := by
 have h1 := ha k; have h2 := hb k
 rw [IntWalk.i64_in (a k) (by omega), IntWalk.i64_in (b k) (by omega), IntWalk.i64_in _ (by omega)]
theorem zE3 {a b : Nat → Int} (ha : xI a) (hb : xI b) : zct a b = some (far a b) := by
 unfold zct ziD
 rw [zbv ha hb 0, zbv ha hb 1, zbv ha hb 2, zuI ha hb]
 rfl
theorem zqo {a b : Nat → Int} (ha : xI a) (hb : xI b) : Uh a b = some (far a b) := by
 have step : ∀ (i : Nat) (d : Nat → Int), i < 3 → ZT (i : Int) a b d = some (.inl (((i + 1 : Nat) : Int), a, b, upd d i (a i - b i))) := by
  intro i d hi
  unfold ZT
  rw [decide_eq_true (show (i : Int) < 3 by omega), zg hi, zd, zH (by omega), zbv ha hb i]
  rfl
 obtain ⟨M, hM⟩ : ∃ M, FU = M + 1 + 1 + 1 + 1 := ⟨FU - 4, by have := yC (m := 2000) (ym (by omega)); omega⟩
 unfold Uh zcI
 rw [hM, zfX (step := fun x => ZT x.1 x.2.1 x.2.2.1 x.2.2.2) (step 0 zF (by omega)), zfX (step := fun x => ZT x.1 x.2.1 x.2.2.1 x.2.2.2) (step 1 _ (by omega)), zfX (step := fun x => ZT x.1 x.2.1 x.2.2.1 x.2.2.2) (step 2 _ (by omega))]
 refine zsF (step := fun x => ZT x.1 x.2.1 x.2.2.1 x.2.2.2) ?_
 show ZT ((2 + 1 : Nat) : Int) a b (upd (upd (upd zF 0 (a 0 - b 0)) 1 (a 1 - b 1)) 2 (a 2 - b 2)) = _
 unfold ZT
 rw [show decide (((2 + 1 : Nat) : Int) < 3) = false from rfl, cond_false]
 exact congrArg (fun x => some (Sum.inr x)) (zuI ha hb)
abbrev tn (p : List (Nat → Int)) (i : Nat) : Nat → Int := p.getD i zF
def zgJ (p : List (Nat → Int)) : Prop := ∀ i, xI (tn p i)
def nrS (p : List (Nat → Int)) (a : Nat → Int) (st : Nat × Int) (i : Nat) : Nat × Int := if far (tn p i) a < st.2 then (i, far (tn p i) a) else st
def Wp (p : List (Nat → Int)) (a : Nat → Int) : Nat × Int := (List.range' 1 (p.length - 1)).foldl (nrS p a) (0, far (tn p 0) a)
theorem zo6 (p : List (Nat → Int)) (a : Nat → Int) : ∀ (k i : Nat) (st : Nat × Int), (st.1 < i ∧ st.2 = far (tn p st.1) a ∧ ∀ j, j < i → st.2 ≤ far (tn p j) a) →
  ((List.range' i k).foldl (nrS p a) st).1 < i + k ∧ ((List.range' i k).foldl (nrS p a) st).2 = far (tn p ((List.range' i k).foldl (nrS p a) st).1) a ∧ ∀ j, j < i + k → ((List.range' i k).foldl (nrS p a) st).2 ≤ far (tn p j) a
 | 0, i, st, h => h
 | k + 1, i, st, h => by
  rw [List.range'_succ, List.foldl_cons]
  have := zo6 p a k (i + 1) (nrS p a st i) (by
   unfold nrS
   split
   ·rename_i hc
    refine ⟨Nat.lt_succ_self i, rfl, fun j hj => ?_⟩
    by_cases e : j = i
    ·subst e; exact Int.le_refl _
    ·have := h.2.2 j (by omega)
     show far (tn p i) a ≤ _
     omega
   ·rename_i hc
    refine ⟨by omega, h.2.1, fun j hj => ?_⟩
    by_cases e : j = i
    ·subst e; omega
    ·exact h.2.2 j (by omega))
  rw [show i + (k + 1) = i + 1 + k by omega]
  exact this
theorem zdG {p : List (Nat → Int)} (hp : 1 ≤ p.length) (a : Nat → Int) : (Wp p a).1 < p.length ∧ (Wp p a).2 = far (tn p (Wp p a).1) a ∧ ∀ j, j < p.length → (Wp p a).2 ≤ far (tn p j) a := by
 have h := zo6 p a (p.length - 1) 1 (0, far (tn p 0) a) ⟨Nat.lt_succ_self 0, rfl, fun j hj => by
  obtain rfl : j = 0 := by omega
  exact Int.le_refl _⟩
 rw [show 1 + (p.length - 1) = p.length by omega] at h
 exact h
theorem zQv {p : List (Nat → Int)} {a : Nat → Int} {st : Nat × Int} {i : Nat} {α : Type} (F : Nat × Int → α) : cond (decide (far (tn p i) a < st.2)) (F (i, far (tn p i) a)) (F st) = F (nrS p a st i) := by
 unfold nrS
 by_cases h : far (tn p i) a < st.2
 ·rw [decide_eq_true h, if_pos h]; rfl
 ·rw [decide_eq_false h, if_neg h]; rfl
theorem zNn {p : List (Nat → Int)} (h1 : 1 ≤ p.length) (h2 : p.length ≤ 1000) (hp : zgJ p) {a : Nat → Int} (ha : xI a) : zg3 p a = some ((((Wp p a).1 + 1 : Nat) : Int), (Wp p a).2) := by
 have hlt := (zdG h1 a).1
 unfold zg3
 rw [show inB 0 p.length = true from zg (i := 0) h1, cond_true, zE3 (hp 0) ha]
 dsimp only [Option.bind]
 unfold zdI
 refine zcY (step := fun x => wX x.1 x.2.1 x.2.2.1 x.2.2.2.1 x.2.2.2.2) p.length (fun i (st : Nat × Int) => (((st.1 : Nat) : Int), st.2, (i : Int), p, a)) (nrS p a) ((((Wp p a).1 + 1 : Nat) : Int), (Wp p a).2) (fun i st hi => ?_) (p.length - 1) 1 FU (by omega) (yC (ym (by omega))) (0, far (tn p 0) a) ?_
 ·show wX st.1 st.2 i p a = _
  unfold wX
  rw [zD hi, zg hi, zd, zE3 (hp i) ha, zH (by omega)]
  dsimp only [Option.bind, cond_true]
  exact zQv (p := p) (a := a) (st := st) (i := i) fun q => some (Sum.inl (((q.1 : Nat) : Int), q.2, ((i + 1 : Nat) : Int), p, a))
 ·show wX (Wp p a).1 (Wp p a).2 (p.length : Nat) p a = _
  unfold wX
  rw [zS, cond_false, zH (by omega)]
theorem zMn {p : List (Nat → Int)} (h1 : 1 ≤ p.length) (h2 : p.length ≤ 1000) (hp : zgJ p) {a : Nat → Int} (ha : xI a) : zkj p a = some ((((Wp p a).1 : Nat) : Int), (Wp p a).2) := by
 unfold zkj
 rw [show inB 0 p.length = true from zg (i := 0) h1, cond_true, zqo (hp 0) ha]
 dsimp only [Option.bind]
 unfold zdN
 have e0 : nrS p a (0, far (tn p 0) a) 0 = (0, far (tn p 0) a) := by unfold nrS; rw [if_neg (Int.lt_irrefl _)]
 have e1 : (List.range' 0 p.length).foldl (nrS p a) (0, far (tn p 0) a) = Wp p a := by
  obtain ⟨n, hn⟩ : ∃ n, p.length = n + 1 := ⟨p.length - 1, by omega⟩
  unfold Wp
  rw [hn, List.range'_succ, List.foldl_cons, e0, Nat.add_sub_cancel]
 refine yp (step := fun x => wU x.1 x.2.1 x.2.2.1 x.2.2.2.1 x.2.2.2.2.1 x.2.2.2.2.2) p.length (fun i (st : Nat × Int) => (((st.1 : Nat) : Int), st.2, ((p.length : Nat) : Int), (i : Int), a, p)) (nrS p a) ((((Wp p a).1 : Nat) : Int), (Wp p a).2) (0, far (tn p 0) a) (by omega) (fun i st hi => ?_) ?_
 ·show wU st.1 st.2 (p.length : Nat) i a p = _
  unfold wU
  rw [zD hi, zg hi, zd, zqo (hp i) ha, zH (by omega)]
  dsimp only [Option.bind, cond_true]
  exact zQv (p := p) (a := a) (st := st) (i := i) fun q => some (Sum.inl (((q.1 : Nat) : Int), q.2, ((p.length : Nat) : Int), ((i + 1 : Nat) : Int), a, p))
 ·rw [e1]
  show wU (Wp p a).1 (Wp p a).2 (p.length : Nat) (p.length : Nat) a p = _
  unfold wU
  rw [zS, cond_false]
def zoD (p : List (Nat → Int)) : Prop := ∀ i j, j < i → i < p.length → W6 3 (tn p i) (tn p j) = false
def zbV (p : List (Nat → Int)) : Bool := (List.range' 0 p.length).all (fun i => (List.range' 0 i).all fun j => !W6 3 (tn p i) (tn p j)) && decide (1 ≤ p.length ∧ p.length ≤ 15)
theorem Zt (p : List (Nat → Int)) : zbV p = true ↔ zoD p ∧ 1 ≤ p.length ∧ p.length ≤ 15 := by
 unfold zbV zoD
 rw [Bool.and_eq_true, decide_eq_true_eq, List.all_eq_true]
 constructor
 ·rintro ⟨h1, h2⟩
  refine ⟨fun i j hj hi => ?_, h2⟩
  have := h1 i (List.mem_range'_1.2 ⟨by omega, by omega⟩)
  rw [List.all_eq_true] at this
  have := this j (List.mem_range'_1.2 ⟨by omega, by omega⟩)
  simpa using this
 ·rintro ⟨h1, h2⟩
  refine ⟨fun i hi => ?_, h2⟩
  rw [List.all_eq_true]
  intro j hj
  have hi := List.mem_range'_1.1 hi; have hj := List.mem_range'_1.1 hj
  rw [h1 i j (by omega) (by omega)]; rfl
theorem zO9 (n : Nat) : zK ((n : Nat) : Int) 1 15 = decide (1 ≤ n ∧ n ≤ 15) := by
 unfold zK
 by_cases h1 : 1 ≤ n
 ·rw [decide_eq_true (show ((n : Nat) : Int) ≥ 1 by omega), cond_true, Bool.eq_iff_iff, decide_eq_true_eq, decide_eq_true_eq]; omega
 ·rw [decide_eq_false (show ¬ ((n : Nat) : Int) ≥ 1 by omega), cond_false, decide_eq_false (by omega)]
theorem zr3 (n : Nat) : yf ((n : Nat) : Int) 1 15 = decide (1 ≤ n ∧ n ≤ 15) := by
 unfold yf
 by_cases h1 : 1 ≤ n
 ·rw [decide_eq_true (show (1 : Int) ≤ ((n : Nat) : Int) by omega), cond_true, Bool.eq_iff_iff, decide_eq_true_eq, decide_eq_true_eq]; omega
 ·rw [decide_eq_false (show ¬ (1 : Int) ≤ ((n : Nat) : Int) by omega), cond_false, decide_eq_false (by omega)]
theorem zT5 {p : List (Nat → Int)} (hl : p.length ≤ 1000) {i : Nat} (hi : i < p.length) : uG ((i : Int), 0, p) = some (cond ((List.range' 0 i).all fun j => !W6 3 (tn p i) (tn p j)) (.inl (((i + 1 : Nat) : Int), p)) (.inr false)) := by
 unfold uG
 refine XV (step := fun x => X7 x.1 x.2.1 x.2.2) i (fun j => ((i : Int), (j : Int), p)) (fun j => !W6 3 (tn p i) (tn p j)) (.inl (((i + 1 : Nat) : Int), p)) (.inr false) (by omega) (fun j hj => ?_) ?_
 ·show X7 i j p = _
  unfold X7
  rw [zD hj, zg hi, zg (i := j) (by omega), zd, zd, zH (by omega)]
  dsimp only [cond_true]
  cases W6 3 (p.getD i zF) (p.getD j zF) <;> rfl
 ·show X7 i i p = _
  unfold X7
  rw [zS, cond_false, zH (by omega)]
theorem zCq {p : List (Nat → Int)} (hl : p.length ≤ 1000) : UN p = some (zbV p) := by
 unfold UN zdX
 have h := XV (step := fun x => wQ x.1 x.2) p.length (fun i => ((i : Int), p)) (fun i => (List.range' 0 i).all fun j => !W6 3 (tn p i) (tn p j)) (decide (1 ≤ p.length ∧ p.length ≤ 15)) false (by omega) (fun i hi => ?_) ?_
 ·refine h.trans ?_
  unfold zbV
  cases (List.range' 0 p.length).all fun i => (List.range' 0 i).all fun j => !W6 3 (tn p i) (tn p j) <;> rfl
 ·show wQ i p = _
  unfold wQ
  rw [zD hi, cond_true, zT5 hl hi]
 ·show wQ (p.length : Nat) p = _
  unfold wQ
  rw [zS, cond_false, zO9]
theorem zBv {p : List (Nat → Int)} (h : zbV p = true) : zfc p = some true := by
 have hl := ((Zt p).1 h).2.2
 unfold zfc
 rw [decide_eq_true (show ((p.length : Nat) : Int) ≤ 15 by omega), cond_true, zCq (by omega), h]
 rfl
theorem zBq {q : List (Nat → Int)} {t : Nat → Int} (hl : q.length ≤ 1000) (h : ∀ j, j < q.length → W6 3 t (tn q j) = false) : zhk q t = some false := by
 have hi : zfm q t = some (-1) := by
  unfold zfm zdv
  refine yp (step := fun x => wW x.1 x.2.1 x.2.2.1 x.2.2.2) (τ := {u : Unit // True}) q.length (fun i _ => (((q.length : Nat) : Int), (i : Int), q, t)) (fun s _ => s) (-1) ⟨(), trivial⟩ (by omega) (fun i _ hi => ?_) ?_
  ·show wW (q.length : Nat) i q t = _
   unfold wW
   rw [zD hi, zg hi, zd, h i hi, zH (by omega)]
   rfl
  ·show wW (q.length : Nat) (q.length : Nat) q t = _
   unfold wW
   rw [zS, cond_false]
 unfold zhk
 rw [hi]; rfl
theorem zk5 {p : List (Nat → Int)} (h : zbV p = true) : zhm p = some true := by
 obtain ⟨hd, h1, h15⟩ := (Zt p).1 h
 unfold zhm zdR
 refine yp (step := fun x => wl x.1 x.2.1 x.2.2) (τ := {u : Unit // True}) p.length (fun i _ => (((p.length : Nat) : Int), (i : Int), p)) (fun s _ => s) true ⟨(), trivial⟩ (by omega) (fun i _ hi => ?_) ?_
 ·show wl (p.length : Nat) i p = _
  unfold wl
  have hs : inS 0 (i : Int) p.length = true := by
   unfold inS
   simp only [Bool.and_eq_true, decide_eq_true_eq]; omega
  have hlen : (p.take i).length = i := by simp; omega
  rw [zD hi, zg hi, hs, zd, List.drop_zero, zBq (by omega) fun j hj => ?_, zH (by omega)]
  ·rfl
  ·rw [hlen] at hj
   have e : tn (p.take i) j = tn p j := by
    unfold tn
    rw [List.getD_eq_getElem?_getD, List.getElem?_take, if_pos hj, ← List.getD_eq_getElem?_getD]
   rw [e]
   exact hd i j hj hi
 ·show wl (p.length : Nat) (p.length : Nat) p = _
  unfold wl
  rw [zS, cond_false, zr3, decide_eq_true ⟨h1, h15⟩]
end Go.RR
