/- Plain facts of jobs: the order, what valid jobs are. -/
import Derived.Test.YtbmaolhjplapoaaGreatVm
import Derived.Test.YtbmaolhjplapoaaGreatRy
set_option linter.unusedVariables false
set_option linter.unusedSimpArgs false
namespace Go.RR
open Go
open Go.IntKind (wrap)
abbrev Job := Int × Int
abbrev yh (l : List Job) : Prop := ∀ x ∈ l, (-128 ≤ x.1 ∧ x.1 ≤ 127) ∧ (0 ≤ x.2 ∧ x.2 ≤ 65535)
theorem zTb (n : Int) : 0 ≤ wrap .u16 n ∧ wrap .u16 n ≤ 65535 := by
 have : wrap .u16 n = n % 65536 := by simp [wrap, IntKind.bits, IntKind.signed]
 omega
theorem zS4 {x : Int} (h : 0 ≤ x) : vY .u16 x 1 = x % 2 := by
 unfold vY
 have e : ((BitVec.ofInt IntKind.u16.bits x &&& BitVec.ofInt IntKind.u16.bits 1).toNat : Int) = x % 2 := by
  show ((BitVec.ofInt 16 x &&& BitVec.ofInt 16 1).toNat : Int) = x % 2
  rw [BitVec.toNat_and]
  have h1 : (BitVec.ofInt 16 1).toNat = 1 := rfl
  rw [h1, Nat.and_one_is_mod, BitVec.toNat_ofInt]
  omega
 rw [e]
 exact IntWalk.u16_in _ (by omega)
theorem Zz {x : Int} {y : Int} (h : 0 ≤ x) : 0 ≤ yz .u16 x y ∧ yz .u16 x y ≤ x := by
 unfold yz
 have hp : (0 : Int) < 2 ^ min y.toNat IntKind.u16.bits := Int.pow_pos (by decide)
 rw [Int.fdiv_eq_ediv_of_nonneg x (Int.le_of_lt hp)]
 exact ⟨Int.ediv_nonneg h (Int.le_of_lt hp), Int.ediv_le_self _ h⟩
theorem zc7 {k : Nat} (h : k ≤ 1000000000) : wrap .u64 (k : Int) = k := IntWalk.u64_in _ (by omega)
theorem Vu (k : Nat) : decide ((k : Int) < 0) = false := decide_eq_false (by omega)
noncomputable def ready (l : List Job) (done : Int) (k : Nat) : Bool := cond ((yz .u16 done k) % 2 == 0) (zO .u16 (l.getD k (0, 0)).2 done == 0) false
noncomputable def pick (l : List Job) (done : Int) : Option Nat := (List.range' 0 l.length).find? (ready l done)
noncomputable def ZE (l : List Job) : Nat → Int → List Int → List Int × Bool
 | 0, _, out => (out, true)
 | k + 1, done, out => match pick l done with
  | none => (out, false)
  | some j => ZE l k (bOr .u16 done (yl .u16 1 j)) (out ++ [(j : Int)])
theorem zey {l : List Job} {done : Int} {j : Nat} (h : pick l done = some j) : j < l.length := by
 have := List.mem_range'_1.1 (List.mem_of_find?_eq_some h)
 omega
theorem zSV {l : List Job} {done : Int} {k : Nat} (hd : 0 ≤ done) (hk : k < l.length) : zhY k done l = some (ready l done k) := by
 unfold zhY ready
 rw [Vu, cond_false, zS4 (Zz hd).1, zg hk, zd]
 cases (yz .u16 done k) % 2 == 0 <;> rfl
theorem zk1 {l : List Job} (hn : l.length ≤ 12) : zaN l = some ((List.range' 0 l.length).map fun i : Nat => (i : Int)) := by
 unfold zaN zcW
 have key := yp (step := fun x => wL x.1 x.2.1 x.2.2) (τ := Unit) l.length (fun i _ => (((l.length : Nat) : Int), (i : Int), (List.range' 0 i).map fun i : Nat => (i : Int))) (fun _ _ => ()) ((List.range' 0 l.length).map fun i : Nat => (i : Int)) () (by omega) ?_ ?_
 ·exact key
 ·intro i _ hi
  show wL (l.length : Nat) i ((List.range' 0 i).map fun i : Nat => (i : Int)) = _
  unfold wL
  rw [zD hi, zG (by simp; omega), zH (by omega)]
  simp only [cond_true]
  rw [List.range'_1_concat, List.map_append]
  simp
 ·show wL (l.length : Nat) (l.length : Nat) ((List.range' 0 l.length).map fun i : Nat => (i : Int)) = _
  unfold wL
  rw [zS, cond_false]
theorem zNz {l : List Job} {done : Int} (hn : l.length ≤ 12) (hd : 0 ≤ done) : zhE ((List.range' 0 l.length).map fun i : Nat => (i : Int)) done l = some (match pick l done with | some j => (j : Int) | none => -1) := by
 unfold zhE zc4
 have hlen : ((List.range' 0 l.length).map fun i : Nat => (i : Int)).length = l.length := by simp
 rw [hlen]
 have hs1 : ∀ i, i < l.length → Xl (l.length : Nat) i ((List.range' 0 l.length).map fun i : Nat => (i : Int)) done l = some (cond (ready l done i) (Sum.inr (i : Int)) (Sum.inl (((l.length : Nat) : Int), ((i + 1 : Nat) : Int), (List.range' 0 l.length).map (fun i : Nat => (i : Int)), done, l))) := by
  intro i hi
  unfold Xl
  have hg : ((List.range' 0 l.length).map fun i : Nat => (i : Int)).getD i 0 = (i : Int) := by
   rw [List.getD_eq_getElem?_getD, List.getElem?_map, List.getElem?_range' hi]
   simp
  rw [hlen, zD hi, zg hi, zd, hg, zSV hd hi, zH (by omega)]
  simp only [cond_true, Option.bind]
  cases ready l done i <;> rfl
 have he1 : Xl (l.length : Nat) (l.length : Nat) ((List.range' 0 l.length).map fun i : Nat => (i : Int)) done l = some (Sum.inr (-1)) := by
  unfold Xl
  rw [zS, cond_false]
 obtain ⟨r, h1, _, h3⟩ := zbr (step := fun x => Xl x.1 x.2.1 x.2.2.1 x.2.2.2.1 x.2.2.2.2) l.length (fun i => (((l.length : Nat) : Int), (i : Int), (List.range' 0 l.length).map (fun i : Nat => (i : Int)), done, l)) (ready l done) hs1 he1 l.length 0 FU (by omega) (yC (ym (by omega)))
 have h1 : zI (fun x => Xl x.1 x.2.1 x.2.2.1 x.2.2.2.1 x.2.2.2.2) FU (((l.length : Nat) : Int), 0, (List.range' 0 l.length).map (fun i : Nat => (i : Int)), done, l) = some r := h1
 rw [h1, h3]; rfl
theorem zjd {l : List Job} (hn : l.length ≤ 12) : ∀ (k i m : Nat) (out : List Int) (done : Int), i + k = l.length → k < m → 0 ≤ done → out.length ≤ i → zI (fun x => WS x.1 x.2.1 x.2.2.1 x.2.2.2.1 x.2.2.2.2) m (((l.length : Nat) : Int), (i : Int), l, out, done) = some (ZE l k done out).1
 | 0, i, m + 1, out, done, h, hm, hd, ho => by
  obtain rfl : i = l.length := h
  unfold zI WS
  rw [zS, cond_false]
  rfl
 | k + 1, i, m + 1, out, done, h, hm, hd, ho => by
  unfold zI
  have e : WS (l.length : Nat) i l out done = some (match pick l done with | some j => Sum.inl (((l.length : Nat) : Int), ((i + 1 : Nat) : Int), l, out ++ [(j : Int)], bOr .u16 done (yl .u16 1 j)) | none => Sum.inr out) := by
   unfold WS
   rw [zD (by omega), zk1 hn, zH (by omega)]
   simp only [cond_true, Option.bind, zNz hn hd]
   cases pick l done with
   | none => rfl
   | some j =>
    dsimp only
    rw [Vu, cond_false, zG (by simp; omega)]
    rfl
  rw [e]
  unfold ZE
  cases pick l done with
  | none => rfl
  | some j =>
   have := zjd hn k (i + 1) m (out ++ [(j : Int)]) (bOr .u16 done (yl .u16 1 j)) (by omega) (by omega) (zTb _).1 (by simp; omega)
   exact this
 | _, _, 0, _, _, _, hm, _, _ => by omega
theorem zpx {l : List Job} (hn : l.length ≤ 12) : zk7 l = some (ZE l l.length 0 []).1 :=
 zjd hn l.length 0 FU [] 0 (by omega) (yC (ym (by omega))) (by omega) (by simp)
noncomputable def znT (l : List Job) (done : Int) (q : Nat) : Int := match (List.range' q (l.length - q)).find? (ready l done) with
 | some j => (j : Int)
 | none => -1
theorem zTT {l : List Job} {done : Int} {out : List Int} (hn : l.length ≤ 12) (hd : 0 ≤ done) (ho : out.length ≤ 12) : ∀ (q m : Nat), q ≤ l.length → q < m →
  zI (fun x => ww x.1 x.2.1 x.2.2.1 x.2.2.2.1 x.2.2.2.2) m (done, znT l done q, (q : Int) - 1, l, out) = some (match pick l done with | none => Sum.inr ([], false) | some j => Sum.inl (bOr .u16 done (yl .u16 1 j), l, out ++ [(j : Int)]))
 | 0, m + 1, hq, hm => by
  unfold zI
  have e : ww done (znT l done 0) (((0 : Nat) : Int) - 1) l out = some (Sum.inr (match pick l done with | none => Sum.inr ([], false) | some j => Sum.inl (bOr .u16 done (yl .u16 1 j), l, out ++ [(j : Int)]))) := by
   unfold ww
   rw [decide_eq_false (show ¬ (((0 : Nat) : Int) - 1 ≥ 0) by omega), cond_false]
   unfold znT pick
   cases hf : (List.range' 0 l.length).find? (ready l done) with
   | none =>
    rfl
   | some j =>
    have hj := zey (l := l) (done := done) (j := j) hf
    dsimp only
    rw [Vu, zc7 (by omega), Vu, cond_false, cond_false, zG (by simp; omega)]
    rfl
  rw [e]
 | q + 1, m + 1, hq, hm => by
  unfold zI
  have e : ww done (znT l done (q + 1)) (((q + 1 : Nat) : Int) - 1) l out = some (Sum.inl (done, znT l done q, (q : Int) - 1, l, out)) := by
   have hq' : ((q + 1 : Nat) : Int) - 1 = (q : Int) := by omega
   rw [hq']
   unfold ww
   have hr : znT l done q = cond (ready l done q) (q : Int) (znT l done (q + 1)) := by
    unfold znT
    rw [show l.length - q = (l.length - (q + 1)) + 1 by omega, List.range'_succ, List.find?_cons]
    cases ready l done q <;> rfl
   rw [decide_eq_true (show (q : Int) ≥ 0 by omega), zc7 (by omega), Vu, zg (show q < l.length by omega), zd, hr, IntWalk.i64_in ((q : Int) - 1) (by omega)]
   simp only [cond_true, cond_false]
   have ht : Int.tmod (yz .u16 done q) 2 = (yz .u16 done q) % 2 := Int.tmod_eq_emod_of_nonneg (Zz hd).1
   rw [ht]
   unfold ready
   cases (yz .u16 done q) % 2 == 0
   ·rfl
   ·cases zO .u16 (l.getD q (0, 0)).2 done == 0 <;> rfl
  rw [e]
  exact zTT hn hd ho q m (by omega) (by omega)
 | _, 0, _, hm => by omega
theorem znw {l : List Job} (hn : l.length ≤ 12) : ∀ (k m : Nat) (out : List Int) (done : Int), out.length + k = l.length → k < m → 0 ≤ done → zI (fun x => Wt x.1 x.2.1 x.2.2) m (done, l, out) = some (cond (ZE l k done out).2 ((ZE l k done out).1, true) ([], false))
 | 0, m + 1, out, done, h, hm, hd => by
  unfold zI Wt
  rw [show out.length = l.length from h, zS, cond_false]
  rfl
 | k + 1, m + 1, out, done, h, hm, hd => by
  unfold zI
  have e : Wt done l out = some (match pick l done with | none => Sum.inr ([], false) | some j => Sum.inl (bOr .u16 done (yl .u16 1 j), l, out ++ [(j : Int)])) := by
   unfold Wt
   rw [zD (show out.length < l.length by omega), cond_true, IntWalk.i64_in (((l.length : Nat) : Int) - 1) (by omega)]
   unfold zdo
   have hnx : znT l done l.length = -1 := by
    unfold znT
    rw [Nat.sub_self]; rfl
   have := zTT (out := out) hn hd (by omega) l.length FU (Nat.le_refl _) (yC (ym (by omega)))
   rw [hnx] at this
   exact this
  rw [e]
  unfold ZE
  cases pick l done with
  | none => rfl
  | some j =>
   have := znw hn k m (out ++ [(j : Int)]) (bOr .u16 done (yl .u16 1 j)) (by simp; omega) (by omega) (zTb _).1
   exact this
 | _, 0, _, _, _, hm, _ => by omega
theorem zpo {l : List Job} (hn : l.length ≤ 12) : zcp l = some (cond (ZE l l.length 0 []).2 ((ZE l l.length 0 []).1, true) ([], false)) :=
 znw hn l.length FU [] 0 (by simp) (yC (ym (by omega))) (by omega)
theorem zlr (l : List Job) : ∀ (k : Nat) (done : Int) (out : List Int), (ZE l k done out).1.length ≤ out.length + k ∧ (decide ((ZE l k done out).1.length = out.length + k) = (ZE l k done out).2)
 | 0, done, out => by simp [ZE]
 | k + 1, done, out => by
  unfold ZE
  cases pick l done with
  | none => exact ⟨by simp, decide_eq_false (by show ¬ out.length = out.length + (k + 1); omega)⟩
  | some j =>
   obtain ⟨h1, h2⟩ := zlr l k (bOr .u16 done (yl .u16 1 j)) (out ++ [(j : Int)])
   dsimp only
   rw [← h2]
   simp only [List.length_append, List.length_cons, List.length_nil] at h1 ⊢
   refine ⟨by omega, decide_eq_decide.2 (by omega)⟩
theorem zzX (l : List Job) : ∀ (k : Nat) (done : Int) (out : List Int), (∀ x ∈ out, ∃ j : Nat, j < l.length ∧ x = (j : Int)) → ∀ x ∈ (ZE l k done out).1, ∃ j : Nat, j < l.length ∧ x = (j : Int)
 | 0, done, out, h => h
 | k + 1, done, out, h => by
  unfold ZE
  cases hp : pick l done with
  | none => exact h
  | some j =>
   refine zzX l k _ _ fun x hx => ?_
   rcases List.mem_append.1 hx with hx | hx
   ·exact h x hx
   ·simp at hx; exact ⟨j, zey hp, hx⟩
noncomputable def zcK (n : Nat) (x : Job) : Bool := zK (wrap .i64 x.1) 1 30 && !(yz .u16 x.2 n != 0)
noncomputable def yI (l : List Job) : Bool := decide (l.length ≤ 12) && (l.all (zcK l.length) && (ZE l l.length 0 []).2)
theorem zhf {α : Type} (p : α → Bool) : ∀ l : List α, (l.any fun x => !p x) = !l.all p
 | [] => rfl
 | x :: m => by rw [List.any_cons, List.all_cons, zhf p m]; cases p x <;> rfl
theorem zBp (l : List Job) (hm : l.length ≤ 100000000) : zca l = some (yI l) := by
 unfold zca yI
 by_cases hn : l.length ≤ 12
 ·rw [decide_eq_false (show ¬ (((l.length : Nat) : Int) > 12) by omega), decide_eq_true hn, cond_false, Bool.true_and]
  unfold zdh
  have key := zMK (step := fun x => wP x.1 x.2) ((0, 0) : Job) l (fun i => ((i : Int), l)) (zcK l.length) (ZE l l.length 0 []).2 false (by omega) ?_ ?_
  ·refine key.trans ?_
   cases l.all (zcK l.length) <;> rfl
  ·intro i hi _
   show wP i l = _
   unfold wP zcK
   rw [zD hi, zg hi, zd, zc7 (by omega), Vu, zH (by omega)]
   simp only [cond_true, cond_false]
   cases zK (wrap .i64 (l.getD i (0, 0)).1) 1 30
   ·rfl
   ·cases yz .u16 (l.getD i (0, 0)).2 (l.length : Nat) != 0 <;> rfl
  ·show wP (l.length : Nat) l = _
   unfold wP
   rw [zS, cond_false, zpo hn]
   cases (ZE l l.length 0 []).2 <;> rfl
 ·rw [decide_eq_true (show (((l.length : Nat) : Int) > 12) by omega), decide_eq_false hn]
  rfl
theorem zBh (l : List Job) (hm : l.length ≤ 100000000) : zcj l = some (yI l) := by
 unfold zcj ziL yI
 try dsimp (config := {proj := false, iota := false, eta := false}) only
 by_cases hn : l.length ≤ 12
 ·rw [decide_eq_true (show (((l.length : Nat) : Int) ≤ 12) by omega), decide_eq_true hn, cond_true, Bool.true_and]
  have hs1 : ∀ i, i < l.length → Y0 (l.length : Nat) i l (l.length : Nat) = some (cond (!(zcK l.length (l.getD i (0, 0)))) (Sum.inr (i : Int)) (Sum.inl (((l.length : Nat) : Int), ((i + 1 : Nat) : Int), l, ((l.length : Nat) : Int)))) := by
   intro i hi
   unfold Y0 zjO zcK
   rw [zD hi, zg hi, zd, Vu, zH (by omega)]
   simp only [cond_true, cond_false]
   have e : yf (wrap .i64 (l.getD i (0, 0)).1) 1 30 = zK (wrap .i64 (l.getD i (0, 0)).1) 1 30 := rfl
   rw [e]
   cases zK (wrap .i64 (l.getD i (0, 0)).1) 1 30
   ·rfl
   ·cases yz .u16 (l.getD i (0, 0)).2 (l.length : Nat) != 0 <;> rfl
  have he1 : Y0 (l.length : Nat) (l.length : Nat) l (l.length : Nat) = some (Sum.inr (-1)) := by
   unfold Y0
   rw [zS, cond_false]
  obtain ⟨r, h1, h2, _⟩ := zbr (step := fun x => Y0 x.1 x.2.1 x.2.2.1 x.2.2.2) l.length (fun i => (((l.length : Nat) : Int), (i : Int), l, ((l.length : Nat) : Int))) (fun i => !(zcK l.length (l.getD i (0, 0)))) hs1 he1 l.length 0 FU (by omega) (yC (ym (by omega)))
  have h1 : zI (fun x => Y0 x.1 x.2.1 x.2.2.1 x.2.2.2) FU (((l.length : Nat) : Int), 0, l, ((l.length : Nat) : Int)) = some r := h1
  have hc : zmf l (l.length : Nat) = some (!(l.all (zcK l.length))) := by
   unfold zmf zhQ zdE
   rw [h1]
   simp only [Option.bind]
   rw [h2, zkA ((0, 0) : Job) l fun x => !(zcK l.length x)]
   exact congrArg some (zhf (zcK l.length) l)
  rw [hc, zpx hn]
  simp only [Option.bind, Bool.not_not]
  have hlen := (zlr l l.length 0 []).2
  simp only [List.length_nil, Nat.zero_add] at hlen
  have e : ((((ZE l l.length 0 []).1.length : Nat) : Int) == ((l.length : Nat) : Int)) = (ZE l l.length 0 []).2 := by
   rw [← hlen]
   by_cases hq : (ZE l l.length 0 []).1.length = l.length
   ·rw [hq]; simp
   ·rw [decide_eq_false hq]
    have : ¬ (((ZE l l.length 0 []).1.length : Nat) : Int) = ((l.length : Nat) : Int) := by omega
    exact beq_eq_false_iff_ne.2 this
  rw [e]
  cases l.all (zcK l.length) <;> rfl
 ·rw [decide_eq_false (show ¬ (((l.length : Nat) : Int) ≤ 12) by omega), decide_eq_false hn]
  rfl
theorem Yg {l : List Job} (h : yI l = true) : l.length ≤ 12 ∧ (ZE l l.length 0 []).2 = true := by
 unfold yI at h
 simp only [Bool.and_eq_true, decide_eq_true_eq] at h
 exact ⟨h.1, h.2.2⟩
theorem zom (n k : Nat) (h : n * k ≤ 140737488355328) : (decide (0 ≤ ((n : Nat) : Int)) && decide (((n : Nat) : Int) = ((n : Nat) : Int)) && zW ((Int.toNat ((n : Nat) : Int)) * k)) = true := by
 rw [zd, zG h]
 simp
end Go.RR
namespace Go.RR
open Go
open Go.IntKind (wrap)
noncomputable def ya (l : List Job) (i k : Nat) : Bool := (yz .u16 (l.getD i (0, 0)).2 k) % 2 == 1
theorem zka {l : List Job} (hj : yh l) {i : Nat} (hi : i < l.length) : 0 ≤ (l.getD i (0, 0)).2 := (hj _ (zR hi)).2.1
theorem zpu {l : List Job} (hj : yh l) {i k : Nat} (hi : i < l.length) (hk : k ≤ 1000000) : zcb l i k = some (ya l i k) := by
 unfold zcb ya
 rw [zg hi, zc7 (by omega), Vu, zd]
 have ht : Int.tmod (yz .u16 (l.getD i (0, 0)).2 k) 2 = (yz .u16 (l.getD i (0, 0)).2 k) % 2 := Int.tmod_eq_emod_of_nonneg (Zz (zka hj hi)).1
 rw [ht]; rfl
theorem zgx {l : List Job} (hj : yh l) {i k : Nat} (hi : i < l.length) : zcl (l.getD i (0, 0)).1 (l.getD i (0, 0)).2 k = some (ya l i k) := by
 unfold zcl ya
 rw [Vu, zS4 (Zz (zka hj hi)).1]; rfl
theorem Uy (a b : Int) : Yo a b = max a b := by
 unfold Yo
 by_cases h : a > b
 ·rw [decide_eq_true h, cond_true, Int.max_eq_left (by omega)]
 ·rw [decide_eq_false h, cond_false, Int.max_eq_right (by omega)]
theorem zEY {l : List Job} : (ZE l l.length 0 []).1.length ≤ l.length := by
 have := (zlr l l.length 0 []).1
 simpa using this
theorem zsk {l : List Job} : ∀ x ∈ (ZE l l.length 0 []).1, ∃ j : Nat, j < l.length ∧ x = (j : Int) := zzX l l.length 0 [] fun x hx => by simp at hx
end Go.RR
