/- Plain laws of rows: what the law asks of even rows and of those that fit, and of changed rows. No condition. -/
import Derived.Test.YtbmaolhjplapoaaGreatDoorWg
import Derived.Test.YtbmaolhjplapoaaGreatDoorWx
import Derived.Test.YtbmaolhjplapoaaGreatDoorVf
import Derived.Test.YtbmaolhjplapoaaGreatDoorWa
import Derived.Test.YtbmaolhjplapoaaGreatDoorVb
import Derived.Lib.ParseIntBTie
import Derived.Lib.SplitLaws
set_option linter.unusedVariables false
set_option linter.unusedSimpArgs false
namespace Go.RR
open Go
noncomputable def fitX {X : Type} (x0 x1 : Int) (f1 f2 : List Int × Int) : Option (X ⊕ Bool) := (cond (f1.2 == 0) (Option.bind (s_q0w (f2.1) x0) fun q => (cond (q.2 == 0) (cond (q.1 == x1) (cond (inB 0 (List.length f2.1)) (cond (decide ((List.getD f2.1 0 0) ≤ 8)) (cond (inB (IntKind.wrap .i64 (((List.length f2.1 : Nat) : Int) - 1)) (List.length f2.1)) (some (Sum.inr (decide ((List.getD f2.1 (Int.toNat (IntKind.wrap .i64 (((List.length f2.1 : Nat) : Int) - 1))) 0) ≥ 2)))) none) (some (Sum.inr false))) none) (some (Sum.inr false))) (some (Sum.inr false)))) (some (Sum.inr (f1.2 == 6))))
noncomputable def tailX {X : Type} (x0 x1 st : Int) (e1 e2 f1 f2 : List Int × Int) : Option (X ⊕ Bool) := (cond (e1.2 != e2.2) (some (Sum.inr false)) (Option.bind (s_q1c (e1.1) (e2.1)) fun r63 => (cond (!r63) (some (Sum.inr false)) (cond (f1.2 != f2.2) (some (Sum.inr false)) (Option.bind (s_q1c (f1.1) (f2.1)) fun r64 => (cond (!r64) (some (Sum.inr false)) (cond (e1.2 == 0) (Option.bind (s_q0w (e2.1) x0) fun r65 => (cond (r65.2 != 0) (some (Sum.inr false)) (cond (r65.1 != x1) (some (Sum.inr false)) (cond (((List.length e2.1 : Nat) : Int) != st) (some (Sum.inr false)) (cond (inB 0 (List.length e2.1)) (cond (inB (IntKind.wrap .i64 (((List.length e2.1 : Nat) : Int) - 1)) (List.length e2.1)) (cond (decide ((IntKind.wrap .i16 ((List.getD e2.1 0 0) - (List.getD e2.1 (Int.toNat (IntKind.wrap .i64 (((List.length e2.1 : Nat) : Int) - 1))) 0))) > 1)) (some (Sum.inr false)) (cond (inB 0 (List.length e2.1)) (cond (inB (IntKind.wrap .i64 (((List.length e2.1 : Nat) : Int) - 1)) (List.length e2.1)) (cond (decide ((List.getD e2.1 0 0) < (List.getD e2.1 (Int.toNat (IntKind.wrap .i64 (((List.length e2.1 : Nat) : Int) - 1))) 0))) (some (Sum.inr false)) (fitX x0 x1 f1 f2)) none) none)) none) none))))) (fitX x0 x1 f1 f2))))))))
section
variable {X : Type} {L S : Int} (hL : 1 ≤ L ∧ L ≤ 200) (hS : 0 ≤ S ∧ S ≤ 200)
include hL hS
theorem fitX_ok : fitX (X := X) S L (fitR L S) (fitR L S) = some (.inr true) := by
 unfold fitX fitR
 have hI := fit_I hL hS 60 (Nat.le_refl _)
 have hI : FitI L S (fitO L S) := hI
 cases hf : fitO L S with
 | none => rfl
 | some b =>
  rw [hf] at hI
  obtain ⟨b1, b2⟩ := FitI.okr hL hS hI
  obtain ⟨n, n1, n2, n3, n4, n5⟩ := hI b rfl
  have hl := b1.l
  have hlen : rlen b S = L := by rw [n4]; exact even_len_ok ⟨n1, n2⟩ n3
  have hok : ∀ x ∈ b, 2 ≤ x ∧ x ≤ 8 := fun x hx => by
   have := List.all_eq_true.1 n5 x hx
   exact of_decide_eq_true this
  have h0 := hok _ (getD_mem' (d := 0) (show 0 < b.length by omega))
  have h9 := hok _ (getD_mem' (d := 0) (show b.length - 1 < b.length by omega))
  simp only [show ((0 : Int) == 0) = true from rfl, cond_true]
  rw [lengthOf_ok b1 hS, hlen]
  simp only [Option.bind, show ((0 : Int) == 0) = true from rfl, cond_true]
  rw [len_ix b2 (by omega), show inB 0 b.length = true from inB_nat (i := 0) (by omega), inB_nat (show b.length - 1 < b.length by omega), toNat_nat, decide_eq_true h0.2, decide_eq_true (show b.getD (b.length - 1) 0 ≥ 2 from h9.1)]
  simp
theorem tailX_ok {k : Nat} (hk : 1 ≤ k ∧ k ≤ 60) : tailX (X := X) S L (k : Int) (evRow L S k) (evRow L S k) (fitR L S) (fitR L S) = some (.inr true) := by
 have hm := mul_rng (a := (k : Int) - 1) (b := S) (by omega) hS
 rw [Int.mul_comm] at hm
 have hfl : (fitR L S).1.length ≤ 1000000 := by
  have hI : FitI L S (fitO L S) := fit_I hL hS 60 (Nat.le_refl _)
  unfold fitR
  cases hf : fitO L S with
  | none => simp
  | some b =>
   rw [hf] at hI
   obtain ⟨b1, b2⟩ := FitI.okr hL hS hI
   have := b1.l
   show b.length ≤ 1000000
   omega
 by_cases h : L - S * ((k : Int) - 1) < (k : Int)
 ·have hE : evRow L S k = ([], 6) := by unfold evRow evR; rw [if_pos h]; rfl
  rw [hE]
  unfold tailX
  dsimp only
  rw [show (((6 : Int)) != 6) = false from rfl, same_row [] (by simp), same_row _ hfl, show ((fitR L S).2 != (fitR L S).2) = false by simp, show ((6 : Int) == 0) = false from rfl]
  simp only [Option.bind, Bool.not_true, cond_false]
  exact fitX_ok hL hS
 ·have hE : evRow L S k = (evenL (L - S * ((k : Int) - 1)).toNat k, 0) := by unfold evRow evR; rw [if_neg h]; rfl
  have ho := even_okr hk (show L - S * ((k : Int) - 1) ≤ 200 by omega) h
  have hlen := even_len_ok hk h
  have hl := even_len (L - S * ((k : Int) - 1)).toNat k
  have g0 : (evenL (L - S * ((k : Int) - 1)).toNat k).getD 0 0 = evenW (L - S * ((k : Int) - 1)).toNat k 0 := tbl_get _ (show 0 < k by omega)
  have g9 : (evenL (L - S * ((k : Int) - 1)).toNat k).getD (k - 1) 0 = evenW (L - S * ((k : Int) - 1)).toNat k (k - 1) := tbl_get _ (show k - 1 < k by omega)
  have r0 := evenW_rng (m := (L - S * ((k : Int) - 1)).toNat) (i := 0) hk.1 (by omega) (by omega)
  have r9 := evenW_rng (m := (L - S * ((k : Int) - 1)).toNat) (i := k - 1) hk.1 (by omega) (by omega)
  have hd : evenW (L - S * ((k : Int) - 1)).toNat k (k - 1) ≤ evenW (L - S * ((k : Int) - 1)).toNat k 0 ∧ evenW (L - S * ((k : Int) - 1)).toNat k 0 ≤ evenW (L - S * ((k : Int) - 1)).toNat k (k - 1) + 1 := by
   have := Nat.mod_lt (L - S * ((k : Int) - 1)).toNat (show 0 < k by omega)
   unfold evenW
   rw [if_neg (show ¬ k - 1 < (L - S * ((k : Int) - 1)).toNat % k by omega)]
   split <;> omega
  rw [hE]
  generalize evenL (L - S * ((k : Int) - 1)).toNat k = l at *
  unfold tailX
  dsimp only
  rw [same_row l (by omega), same_row _ hfl, show ((fitR L S).2 != (fitR L S).2) = false by simp, lengthOf_ok ho hS, hlen, hl, len_ix hk.1 (by omega), show inB 0 k = true from inB_nat (i := 0) (by omega), inB_nat (show k - 1 < k by omega), toNat_nat, g0, g9, IntWalk.i16_in _ (by omega)]
  simp only [Option.bind, Bool.not_true, cond_false, cond_true, show ((0 : Int) != 0) = false from rfl, show ((0 : Int) == 0) = true from rfl]
  rw [show (L != L) = false by simp, show ((k : Int) != (k : Int)) = false by simp, decide_eq_false (show ¬ evenW (L - S * ((k : Int) - 1)).toNat k 0 - evenW (L - S * ((k : Int) - 1)).toNat k (k - 1) > 1 by omega), decide_eq_false (show ¬ evenW (L - S * ((k : Int) - 1)).toNat k 0 < evenW (L - S * ((k : Int) - 1)).toNat k (k - 1) by omega)]
  simp only [cond_false]
  exact fitX_ok hL hS
end
theorem difN_snoc : ∀ (a b : List Int) (x y : Int), a.length = b.length → difN (a ++ [x]) (b ++ [y]) = difN a b + (if x = y then 0 else 1)
 | [], [], x, y, _ => by simp [difN]
 | [], _ :: _, _, _, h => by simp at h
 | _ :: _, [], _, _, h => by simp at h
 | a :: l, b :: m, x, y, h => by
  have := difN_snoc l m x y (by simpa using h)
  simp only [List.cons_append, difN, this]
  omega
theorem difN_le : ∀ (a b : List Int), difN a b ≤ a.length
 | [], _ => by cases ‹List Int› <;> simp [difN]
 | _ :: _, [] => by simp [difN]
 | a :: l, b :: m => by
  have := difN_le l m
  simp only [difN, List.length_cons]
  split <;> omega
theorem at_six {l : List Int} (hl : Byt l) (i : Nat) : ∃ k : Nat, s_q1z l (i : Int) 6 = some ((k : Int) - 1) ∧ 1 ≤ k ∧ k ≤ 6 := by
 obtain ⟨x, h1, h2⟩ := at_ok hl (i := i) (k := 6) (by omega)
 exact ⟨x + 1, by rw [show (((x + 1 : Nat) : Int)) - 1 = (x : Int) by omega]; exact h1, by omega, by omega⟩
section
variable {L S : Int} (hL : 1 ≤ L ∧ L ≤ 200) (hS : 0 ≤ S ∧ S ≤ 200) {more : List Int} (hm : Byt more)
include hL hS hm
theorem changed_run {r fixed : List Int} (hl : fixed.length = r.length) (h6 : r.length ≤ 60) : f_q1s_run70 (S, L, ((difN fixed r : Nat) : Int), L, 0, 0, 0, more, r, fixed) = some true := by
 unfold f_q1s_run70
 have key := run_count (step := fun x => f_q1s_n70 x.1 x.2.1 x.2.2.1 x.2.2.2.1 x.2.2.2.2.1 x.2.2.2.2.2.1 x.2.2.2.2.2.2.1 x.2.2.2.2.2.2.2.1 x.2.2.2.2.2.2.2.2.1 x.2.2.2.2.2.2.2.2.2) (τ := Unit) fixed.length (fun i _ => (S, L, ((difN fixed r : Nat) : Int), L, 0, ((difN (fixed.take i) (r.take i) : Nat) : Int), (i : Int), more, r, fixed)) (fun _ _ => ()) true () (by omega) ?_ ?_
 ·exact key
 ·intro i _ hi
  have hi2 : i < r.length := by omega
  have hd := difN_le (fixed.take i) (r.take i)
  rw [List.length_take] at hd
  have hsn := difN_snoc (fixed.take i) (r.take i) (fixed.getD i 0) (r.getD i 0) (by rw [List.length_take, List.length_take]; omega)
  rw [← take_step hi, ← take_step hi2] at hsn
  show f_q1s_n70 S L (difN fixed r : Nat) L 0 (difN (fixed.take i) (r.take i) : Nat) i more r fixed = _
  unfold f_q1s_n70
  rw [lt_true hi, inB_nat hi, inB_nat hi2, toNat_nat, succ64 (i := i) (by omega), succ64 (i := difN (fixed.take i) (r.take i)) (by omega), hsn]
  by_cases e : fixed.getD i 0 = r.getD i 0
  ·rw [if_pos e, show (fixed.getD i 0 != r.getD i 0) = false by rw [e]; exact bne_self_eq_false _, Nat.add_zero]; rfl
  ·rw [if_neg e, show (fixed.getD i 0 != r.getD i 0) = true from bne_iff_ne.2 e]; rfl
 ·obtain ⟨k, hk, k1, k6⟩ := at_six hm 4
  have hk : s_q1z more 4 6 = some ((k : Int) - 1) := hk
  show f_q1s_n70 S L (difN fixed r : Nat) L 0 (difN (fixed.take fixed.length) (r.take fixed.length) : Nat) (fixed.length : Nat) more r fixed = _
  unfold f_q1s_n70
  rw [lt_neg, cond_false, List.take_length, hl, List.take_length, hk]
  simp only [Option.bind, show ((0 : Int) != 0) = false from rfl, cond_false, show (L != L) = false by simp, show (((r.length : Nat) : Int) != ((r.length : Nat) : Int)) = false by simp, show (((difN fixed r : Nat) : Int) != ((difN fixed r : Nat) : Int)) = false by simp]
  rw [IntWalk.i64_in (1 + ((k : Int) - 1)) (by omega), show 1 + ((k : Int) - 1) = (k : Int) by omega, iEvenRow_ok (by omega) hL hS, sEvenRow_ok (by omega) hL hS, iFit_ok hL hS, sFit_ok hL hS]
  exact tailX_ok hL hS (by omega)
end
end Go.RR
namespace Go.RR
open Go
def dl (n : Nat) : List UInt8 := if n < 10 then [UInt8.ofNat (48 + n)] else if n < 100 then [UInt8.ofNat (48 + n / 10), UInt8.ofNat (48 + n % 10)] else [UInt8.ofNat (48 + n / 100), UInt8.ofNat (48 + n / 10 % 10), UInt8.ofNat (48 + n % 10)]
theorem dl_eq {n : Nat} (h : n < 1000) : Lib.decDigits n = dl n := by
 have one : ∀ m, m < 10 → Lib.decDigits m = [UInt8.ofNat (48 + m)] := fun m hm => by rw [Lib.decDigits, dif_pos hm]
 have step : ∀ m, ¬ m < 10 → Lib.decDigits m = Lib.decDigits (m / 10) ++ [UInt8.ofNat (48 + m % 10)] := fun m hm => by rw [Lib.decDigits, dif_neg hm]
 unfold dl
 by_cases h1 : n < 10
 ·rw [if_pos h1, one n h1]
 ·rw [if_neg h1, step n h1]
  by_cases h2 : n < 100
  ·rw [if_pos h2, one _ (by omega)]; rfl
  ·rw [if_neg h2, step _ (by omega), one _ (by omega), show n / 10 / 10 = n / 100 by omega]; rfl
theorem parse_all : ∀ n : Fin 1000, Lib.parseIntB 64 (dl n.1) = .ok (n.1 : Int) := by decide +kernel
theorem parse_dl {n : Nat} (h : n < 1000) : Lib.parseIntB 64 (dl n) = .ok (n : Int) := parse_all ⟨n, h⟩
theorem itoa_nat {n : Nat} (h : n < 1000) : Lib.itoa (n : Int) = dl n := by
 unfold Lib.itoa
 rw [if_neg (by omega), Int.toNat_natCast, dl_eq h]
def IsWid (s : ByteArray) (lo hi n : Nat) : Prop := lo ≤ n ∧ n ≤ hi ∧ s.data.toList = dl n
theorem read_yes {s : ByteArray} {lo hi n : Nat} (hs : s.size ≤ 2000000) (hh : hi < 1000) (h : IsWid s lo hi n) : s_q0f s (lo : Int) (hi : Int) = some ((n : Int), true) := by
 obtain ⟨h1, h2, h3⟩ := h
 unfold s_q0f
 rw [show Nat.ble s.size 281474976710656 = true by rw [Nat.ble_eq]; omega, cond_true, h3, parse_dl (by omega)]
 dsimp only
 rw [decide_eq_true (show -9223372036854775808 ≤ (n : Int) by omega), decide_eq_true (show (n : Int) ≤ 9223372036854775807 by omega)]
 have : readB s (n : Int) (lo : Int) (hi : Int) = true := by
  unfold readB
  rw [itoa_nat (by omega), Lib.toList_data, h3, decide_eq_true rfl, decide_eq_true (show (lo : Int) ≤ n by omega), decide_eq_true (show (n : Int) ≤ hi by omega)]; rfl
 rw [this]; rfl
def spl (y : UInt8) : List UInt8 → List (List UInt8)
 | [] => [[]]
 | b :: l => if b = y then [] :: spl y l else match spl y l with
  | w :: ws => (b :: w) :: ws
  | [] => [[b]]
theorem splitK_spl (y : UInt8) : ∀ l : List UInt8, Lib.splitK [y] 0 (Lib.count l [y]) l = spl y l
 | [] => by
  rw [Lib.count_miss (by simp [Lib.index])]; rfl
 | b :: l => by
  have ih := splitK_spl y l
  unfold spl
  by_cases h : b = y
  ·subst h
   rw [if_pos rfl, Lib.count_cons_eq, Nat.add_comm]
   have hix : Lib.index (b :: l) [b] = 0 := by rw [Lib.index]; simp [List.isPrefixOf]
   unfold Lib.splitK
   rw [hix]
   simp only [show ((0 : Int) == -1) = false from rfl, Bool.false_eq_true, if_false]
   show [] :: Lib.splitK [b] 0 (Lib.count l [b]) l = _
   rw [ih]
  ·rw [if_neg h, Lib.count_cons_ne b y l h, ← ih]
   have hp : ([y] : List UInt8).isPrefixOf (b :: l) = false := by simp [List.isPrefixOf, Ne.symm h]
   have hix : Lib.index (b :: l) [y] = if Lib.index l [y] == -1 then -1 else Lib.index l [y] + 1 := by rw [Lib.index, hp]; simp
   cases hk : Lib.count l [y] with
   | zero => rfl
   | succ k =>
    unfold Lib.splitK
    by_cases hm : Lib.index l [y] = -1
    ·rw [hix, if_pos (beq_iff_eq.2 hm), hm]; rfl
    ·have hge := Lib.index_ge l [y]
     obtain ⟨j, hj⟩ : ∃ j : Nat, Lib.index l [y] = j := ⟨(Lib.index l [y]).toNat, by omega⟩
     have hb : ((j : Int) == -1) = false := beq_eq_false_iff_ne.2 (by omega)
     have hb2 : ((j : Int) + 1 == -1) = false := beq_eq_false_iff_ne.2 (by omega)
     rw [hix, hj, hb]
     simp only [Bool.false_eq_true, if_false, hb2]
     have e1 : ((j : Int) + 1).toNat = j + 1 := by omega
     rw [e1, Int.toNat_natCast]
     show (b :: l).take (j + 1 + 0) :: Lib.splitK [y] 0 k ((b :: l).drop (j + 1 + 1)) = (b :: l.take (j + 0)) :: Lib.splitK [y] 0 k (l.drop (j + 1))
     rfl
theorem data_inj : ∀ {l l' : List ByteArray}, l.map (·.data.toList) = l'.map (·.data.toList) → l = l'
 | [], [], _ => rfl
 | [], _ :: _, h => by cases h
 | _ :: _, [], h => by cases h
 | a :: l, b :: l', h => by
  simp only [List.map_cons, List.cons.injEq] at h
  rw [data_inj h.2]
  congr 1
  apply ByteArray.ext
  exact Array.toList_inj.1 h.1
def cW (w : Int) : UInt8 := UInt8.ofNat (48 + w.toNat)
def wdW (w : Int) : ByteArray := ⟨#[cW w]⟩
def txW : List Int → List UInt8
 | [] => []
 | [w] => [cW w]
 | w :: v :: r => cW w :: 44 :: txW (v :: r)
theorem cW_ne {w : Int} (h : 1 ≤ w ∧ w ≤ 9) : cW w ≠ 44 := by
 obtain rfl | rfl | rfl | rfl | rfl | rfl | rfl | rfl | rfl : w = 1 ∨ w = 2 ∨ w = 3 ∨ w = 4 ∨ w = 5 ∨ w = 6 ∨ w = 7 ∨ w = 8 ∨ w = 9 := by omega
 all_goals decide
theorem dl_W {w : Int} (h : 1 ≤ w ∧ w ≤ 9) : dl w.toNat = [cW w] := by
 unfold dl cW
 rw [if_pos (by omega)]
theorem join_tx : ∀ r : List Int, Lib.join ((r.map wdW).map (·.data.toList)) (⟨#[44]⟩ : ByteArray).data.toList = txW r
 | [] => rfl
 | [w] => rfl
 | w :: v :: r => by
  have ih := join_tx (v :: r)
  show (wdW w).data.toList ++ ((⟨#[44]⟩ : ByteArray).data.toList ++ Lib.join (((v :: r).map wdW).map (·.data.toList)) (⟨#[44]⟩ : ByteArray).data.toList) = _
  rw [ih]
  rfl
theorem txW_len : ∀ r : List Int, (txW r).length ≤ 2 * r.length
 | [] => Nat.le_refl _
 | [w] => by simp [txW]
 | w :: v :: r => by
  have := txW_len (v :: r)
  simp only [txW, List.length_cons] at *
  omega
theorem spl_tx : ∀ (w : Int) (r : List Int), (∀ x ∈ w :: r, 1 ≤ x ∧ x ≤ 9) → spl 44 (txW (w :: r)) = ((w :: r).map wdW).map (·.data.toList)
 | w, [], h => by
  have := cW_ne (h w (by simp))
  simp only [txW, spl]
  rw [if_neg this]
  rfl
 | w, v :: r, h => by
  have h1 := cW_ne (h w (by simp))
  have ih := spl_tx v r fun x hx => h x (by simp [hx])
  simp only [txW, spl]
  rw [if_neg h1, if_pos trivial, ih]
  rfl
theorem idec_W {w : Int} (h : 1 ≤ w ∧ w ≤ 9) : s_q19 w = some (wdW w) := by
 unfold s_q19 s_q08
 rw [show decide ((10 : Int) = 10) = true from rfl, decide_eq_true (show -9223372036854775808 ≤ w by omega), decide_eq_true (show w ≤ 9223372036854775807 by omega)]
 obtain ⟨n, rfl⟩ : ∃ n : Nat, w = (n : Int) := ⟨w.toNat, by omega⟩
 show some (⟨(Lib.itoa (n : Int)).toArray⟩ : ByteArray) = _
 have := dl_W h
 rw [Int.toNat_natCast] at this
 rw [itoa_nat (by omega), this]
 rfl
def rowB (r : List Int) : ByteArray := ⟨(txW r).toArray⟩
section
variable {r : List Int} (hr : ∀ x ∈ r, 1 ≤ x ∧ x ≤ 9) (h1 : 1 ≤ r.length) (hl : r.length ≤ 60)
include hr h1 hl
theorem row_okr : OKR r := ⟨fun x hx => by have := hr x hx; omega, h1, hl⟩
theorem rowText_ok : s_q17 r = some (rowB r) := by
 unfold s_q17
 rw [valid_ok (row_okr hr h1 hl)]
 simp only [Option.bind, Bool.not_true, cond_false]
 unfold f_q17_run5
 have key := run_listI (step := fun x => f_q17_n5 x.1 x.2.1 x.2.2.1 x.2.2.2) 0 r (fun i (ws : List ByteArray) => (((r.length : Nat) : Int), (i : Int), ws, r)) (fun ws w => ws ++ [wdW w]) (fun i ws => ws.length = i) (rowB r) [] (by omega) rfl ?_ ?_
 ·exact key
 ·intro i ws hi hm hI
  have hw := hr _ hm
  refine ⟨?_, by simp [hI]⟩
  show f_q17_n5 (r.length : Nat) i ws r = _
  unfold f_q17_n5
  rw [lt_true hi, inB_nat hi, toNat_nat, IntWalk.i64_in (r.getD i 0) (by omega), idec_W hw, succ64 (by omega)]
  simp only [cond_true, Option.bind]
  rw [fits_small (show (List.length ws + List.length ([wdW (r.getD i 0)] : List ByteArray)) * 16 ≤ 140737488355328 by simp [hI]; omega)]
  rfl
 ·intro _
  have hm : r.foldl (fun ws w => ws ++ [wdW w]) [] = r.map wdW := by
   have : ∀ (l : List Int) (s : List ByteArray), l.foldl (fun ws w => ws ++ [wdW w]) s = s ++ l.map wdW := by
    intro l
    induction l with
    | nil => intro s; simp
    | cons a l ih => intro s; rw [List.foldl_cons, ih]; simp
   simpa using this r []
  rw [hm]
  show f_q17_n5 (r.length : Nat) (r.length : Nat) (r.map wdW) r = _
  have hlen := txW_len r
  unfold f_q17_n5 s_q0m
  rw [lt_neg, cond_false, join_tx, show Nat.ble (r.map wdW).length 1000000 = true by rw [Nat.ble_eq, List.length_map]; omega, show Nat.ble (txW r).length 140737488355328 = true by rw [Nat.ble_eq]; omega]
  rfl
theorem splitRow_ok : s_q0i (rowB r) (⟨#[44]⟩ : ByteArray) = some (r.map wdW) := by
 have hlen := txW_len r
 have hz : (rowB r).size = (txW r).length := by simp [rowB, ByteArray.size]
 unfold s_q0i
 rw [show Nat.ble (rowB r).size 1000000000 = true by rw [Nat.ble_eq, hz]; omega, show Nat.ble 1 (⟨#[44]⟩ : ByteArray).size = true from rfl, Bool.and_self, cond_true]
 congr 1
 refine data_inj ?_
 rw [Lib.splitB_data]
 cases r with
 | nil => simp at h1
 | cons w r =>
  rw [← spl_tx w r hr]
  exact splitK_spl 44 _
theorem readRow_ok : s_q16 (rowB r) = some (r, 0) := by
 unfold s_q16
 rw [splitRow_ok hr h1 hl]
 simp only [Option.bind]
 have hl2 : ((r.map wdW).length : Nat) = r.length := by simp
 rw [hl2]
 unfold f_q16_run3
 have key := run_count (step := fun x => f_q16_n3 x.1 x.2.1 x.2.2.1 x.2.2.2) (τ := Unit) r.length (fun i _ => (((r.length : Nat) : Int), (i : Int), r.take i, r.map wdW)) (fun _ _ => ()) (r, 0) () (by omega) ?_ ?_
 ·exact key
 ·intro i _ hi
  have hw := hr _ (getD_mem' (d := 0) hi)
  have hg : (r.map wdW).getD i (⟨#[]⟩ : ByteArray) = wdW (r.getD i 0) := by
   simp [List.getD_eq_getElem?_getD, hi]
  have hi2 : i < (r.map wdW).length := by rw [hl2]; exact hi
  have hrd : s_q0f (wdW (r.getD i 0)) 1 200 = some (r.getD i 0, true) := by
   have := read_yes (s := wdW (r.getD i 0)) (lo := 1) (hi := 200) (n := (r.getD i 0).toNat) (by simp [wdW, ByteArray.size]) (by omega) ⟨by omega, by omega, (dl_W hw).symm⟩
   rw [Int.toNat_of_nonneg (by omega)] at this
   exact this
  show f_q16_n3 (r.length : Nat) i (r.take i) (r.map wdW) = _
  unfold f_q16_n3
  rw [lt_true hi, inB_nat hi2, toNat_nat, hg, hrd, succ64 (by omega)]
  simp only [cond_true, Option.bind, Bool.not_true, cond_false]
  have ht : r.take (i + 1) = r.take i ++ [r.getD i 0] := by
   rw [List.take_add_one, List.getElem?_eq_getElem hi, List.getD_eq_getElem?_getD, List.getElem?_eq_getElem hi]; rfl
  rw [IntWalk.i16_in (r.getD i 0) (by omega), fits_small (by simp; omega), ht]
  rfl
 ·show f_q16_n3 (r.length : Nat) (r.length : Nat) (r.take r.length) (r.map wdW) = _
  unfold f_q16_n3
  rw [lt_neg, cond_false, List.take_length, valid_ok (row_okr hr h1 hl)]
  rfl
end
end Go.RR
namespace Go.RR
open Go
theorem has_ok {l : List Int} {n : Int} (hl : l.length ≤ 1000000) : s_q1u l n = some (l.contains n) := by
 unfold s_q1u s_q1p f_q1p_run2
 have key := run_allL (step := fun x => f_q1p_n2 x.1 x.2.1 x.2.2) 0 l (fun i => (n, (i : Int), l)) (fun x => !(x == n)) false true (by omega) ?_ ?_
 ·have key : iter (fun x => f_q1p_n2 x.1 x.2.1 x.2.2) FU (n, 0, l) = some (cond (l.all fun x => !(x == n)) false true) := key
  rw [key]
  simp only [Option.bind]
  congr 1
  rw [List.contains_eq_any_beq]
  have : ∀ l : List Int, cond (l.all fun x => !(x == n)) false true = l.any fun x => n == x := by
   intro l
   induction l with
   | nil => rfl
   | cons a l ih =>
    rw [List.all_cons, List.any_cons, ← ih, show (n == a) = (a == n) from Bool.beq_comm]
    cases a == n <;> simp
  exact this l
 ·intro i hi hm
  show f_q1p_n2 n i l = _
  unfold f_q1p_n2
  rw [lt_true hi, inB_nat hi, toNat_nat, succ64 (by omega)]
  cases l.getD i 0 == n <;> rfl
 ·show f_q1p_n2 n (l.length : Nat) l = _
  unfold f_q1p_n2
  rw [lt_neg, cond_false]
noncomputable def midX {X : Type} (x0 x1 : Int) (x3 x4 : List Int) : Option (X ⊕ Bool) := (Option.bind (s_q1z x3 3 9) fun r1 => (cond (decide ((IntKind.wrap .i64 ((IntKind.wrap .i64 (x1 + r1)) - 4)) < 1)) (some (Sum.inr true)) (Option.bind (s_q0n x4 x0 (IntKind.wrap .i64 ((IntKind.wrap .i64 (x1 + r1)) - 4)) 2 8) fun r2 => (Option.bind (s_q0s x4 x0 (IntKind.wrap .i64 ((IntKind.wrap .i64 (x1 + r1)) - 4)) 2 8) fun r3 => (cond (r2.2.2 != r3.2.2) (some (Sum.inr false)) (Option.bind (s_q1c (r2.1) (r3.1)) fun r4 => (cond (!r4) (some (Sum.inr false)) (cond (r2.2.1 != r3.2.1) (some (Sum.inr false)) (cond (r2.2.2 == 0) (Option.bind (s_q0w (r3.1) x0) fun r5 => (Option.map (fun x => (Sum.inr x)) (f_q1s_run70 (x0, (IntKind.wrap .i64 ((IntKind.wrap .i64 (x1 + r1)) - 4)), r3.2.1, r5.1, r5.2, 0, 0, x3, x4, r3.1)))) (cond (r2.2.2 != 6) (some (Sum.inr false)) (Option.bind (s_q1z x3 4 6) fun r6 => (Option.bind (s_q15 (IntKind.wrap .i64 ((IntKind.wrap .i64 (x1 + r1)) - 4)) x0 (IntKind.wrap .i64 (1 + r6))) fun r7 => (Option.bind (s_q1b (IntKind.wrap .i64 ((IntKind.wrap .i64 (x1 + r1)) - 4)) x0 (IntKind.wrap .i64 (1 + r6))) fun r8 => (Option.bind (s_q1j (IntKind.wrap .i64 ((IntKind.wrap .i64 (x1 + r1)) - 4)) x0 2 8 4) fun r9 => (Option.bind (s_q1o (IntKind.wrap .i64 ((IntKind.wrap .i64 (x1 + r1)) - 4)) x0 2 8 4) fun r10 => tailX x0 (IntKind.wrap .i64 ((IntKind.wrap .i64 (x1 + r1)) - 4)) (IntKind.wrap .i64 (1 + r6)) r7 r8 r9 r10)))))))))))))))
section
variable {r : List Int} (hr : ∀ x ∈ r, 1 ≤ x ∧ x ≤ 9) (h1 : 1 ≤ r.length) (h6 : r.length ≤ 6) {S : Int} (hS : 0 ≤ S ∧ S ≤ 3) {more : List Int} (hm : Byt more)
include hr h1 h6 hS
theorem due_rng : 1 ≤ rlen r S ∧ rlen r S ≤ 69 := by
 have hs := sum_rng (r := r) (a := 1) (b := 9) (by omega) hr
 have hp := Int.mul_nonneg (show (0 : Int) ≤ ((r.length - 1 : Nat) : Int) by omega) hS.1
 have hq := Int.mul_le_mul (show ((r.length - 1 : Nat) : Int) ≤ 5 by omega) hS.2 hS.1 (show (0 : Int) ≤ 5 by omega)
 rw [rlen_eq]
 omega
include hm
theorem midX_ok {X : Type} : midX (X := X) S (rlen r S) more r = some (.inr true) := by
 have hd := due_rng hr h1 h6 hS
 obtain ⟨x, hx, hx9⟩ := at_ok hm (i := 3) (k := 9) (by omega)
 have hx : s_q1z more 3 9 = some (x : Int) := hx
 obtain ⟨k, hk, k1, k6⟩ := at_six hm 4
 have hk : s_q1z more 4 6 = some ((k : Int) - 1) := hk
 have hS' : 0 ≤ S ∧ S ≤ 200 := by omega
 unfold midX
 rw [hx]
 simp only [Option.bind]
 rw [IntWalk.i64_in (rlen r S + (x : Int)) (by omega), IntWalk.i64_in _ (by omega)]
 generalize hL : rlen r S + (x : Int) - 4 = L
 by_cases h : L < 1
 ·rw [decide_eq_true h]; rfl
 ·have hL' : 1 ≤ L ∧ L ≤ 200 := by omega
  rw [decide_eq_false h, iChange_ok hr h1 (by omega) hS' (by omega) (by omega), sChange_ok hr h1 (by omega) hS' (by omega) (by omega)]
  simp only [cond_false]
  unfold chgR
  by_cases h0 : chgE r (L - rlen r S) = 0
  ·rw [if_pos h0]
   have hf9 := chg_rng r (L - rlen r S) hr
   have hfl := chg_len r (L - rlen r S)
   have ho := OK9_okr hf9 (by omega) (by omega)
   have hlen : rlen (chgL r (L - rlen r S)) S = L := by
    have := chg_sum r (L - rlen r S)
    rw [rlen_eq, hfl]
    rw [rlen_eq] at this ⊢
    rw [rlen_eq] at h0
    omega
   have hrun := changed_run hL' hS' hm (r := r) (fixed := chgL r (L - rlen r S)) hfl (by omega)
   rw [chg_dif] at hrun
   simp only [show ((0 : Int) != 0) = false from rfl, cond_false, show ((0 : Int) == 0) = true from rfl, cond_true, show (((chgN r (L - rlen r S) : Nat) : Int) != ((chgN r (L - rlen r S) : Nat) : Int)) = false by simp]
   rw [same_row _ (by omega), lengthOf_ok ho hS', hlen]
   simp only [Bool.not_true, cond_false]
   rw [hrun]
   rfl
  ·rw [if_neg h0]
   simp only [show ((6 : Int) != 6) = false from rfl, cond_false, show ((6 : Int) == 0) = false from rfl, show ((0 : Int) != 0) = false from rfl]
   rw [same_row [] (by simp), hk]
   simp only [Bool.not_true, cond_false]
   rw [IntWalk.i64_in (1 + ((k : Int) - 1)) (by omega), show 1 + ((k : Int) - 1) = (k : Int) by omega, iEvenRow_ok (by omega) hL' hS', sEvenRow_ok (by omega) hL' hS', iFit_ok hL' hS', sFit_ok hL' hS']
   exact tailX_ok hL' hS' (by omega)
end
def ownL (r : List Int) (w : Nat) : List Int := ((List.range' 1 w).map fun v : Nat => (v : Int)).filter fun v => r.contains v
theorem ownL_succ (r : List Int) (w : Nat) : ownL r (w + 1) = ownL r w ++ cond (r.contains ((w + 1 : Nat) : Int)) [((w + 1 : Nat) : Int)] [] := by
 unfold ownL
 rw [List.range'_1_concat, List.map_append, List.filter_append, Nat.add_comm 1 w]
 simp only [List.map_cons, List.map_nil, List.filter_cons, List.filter_nil]
 cases r.contains ((w + 1 : Nat) : Int) <;> rfl
theorem ownL_mem {r : List Int} {w : Nat} {x : Int} : x ∈ ownL r w ↔ (1 ≤ x ∧ x ≤ (w : Int)) ∧ x ∈ r := by
 unfold ownL
 rw [List.mem_filter, List.mem_map]
 constructor
 ·rintro ⟨⟨v, hv, rfl⟩, h2⟩
  rw [List.mem_range'_1] at hv
  exact ⟨by omega, by simpa using h2⟩
 ·rintro ⟨h1, h2⟩
  refine ⟨⟨x.toNat, by rw [List.mem_range'_1]; omega, by omega⟩, by simpa using h2⟩
theorem ownL_len (r : List Int) (w : Nat) : (ownL r w).length ≤ w := by
 unfold ownL
 have := List.length_filter_le (fun v => r.contains v) ((List.range' 1 w).map fun v : Nat => (v : Int))
 simpa using this
theorem ownL_inc (r : List Int) (w : Nat) : (ownL r w).Pairwise (· < ·) := by
 unfold ownL
 refine List.Pairwise.filter _ ?_
 rw [List.pairwise_map]
 exact (List.pairwise_lt_range' (s := 1) (n := w)).imp fun h => by omega
theorem ownL_sz {r : List Int} (hr : ∀ x ∈ r, 1 ≤ x ∧ x ≤ 9) (h1 : 1 ≤ r.length) (h8 : (ownL r 9).length ≤ 8) : SzOK (ownL r 9) := by
 refine ⟨⟨?_, h8⟩, fun n hn => ?_, fun i h0 hi => ?_⟩
 ·have hm := getD_mem' (d := 0) (show 0 < r.length by omega)
  exact List.length_pos_of_mem (ownL_mem.2 ⟨hr _ hm, hm⟩)
 ·have := (ownL_mem.1 hn).1; omega
 ·have := List.pairwise_iff_getElem.1 (ownL_inc r 9) (i - 1) i (by omega) hi (by omega)
  simpa [List.getD_eq_getElem?_getD, hi, show i - 1 < (ownL r 9).length by omega] using this
def gOwn (w : Int) (o : List Int) (x : Int) : List Int := cond (x == w) (cond (!o.contains w) (o ++ [w]) o) o
theorem gOwn_in {w : Int} {o : List Int} (h : o.contains w = true) : ∀ l : List Int, l.foldl (gOwn w) o = o
 | [] => rfl
 | a :: l => by
  rw [List.foldl_cons, show gOwn w o a = o by unfold gOwn; rw [h]; cases a == w <;> rfl]
  exact gOwn_in h l
theorem gOwn_all {w : Int} {o : List Int} (h : o.contains w = false) : ∀ l : List Int, l.foldl (gOwn w) o = o ++ cond (l.contains w) [w] []
 | [] => by simp
 | a :: l => by
  rw [List.foldl_cons]
  by_cases e : a = w
  ·subst e
   have hc : (o ++ [a]).contains a = true := by simp
   rw [show gOwn a o a = o ++ [a] by unfold gOwn; rw [h]; simp, gOwn_in hc]
   simp
  ·rw [show gOwn w o a = o by unfold gOwn; rw [show (a == w) = false from beq_eq_false_iff_ne.2 e]; rfl, gOwn_all h l]
   congr 1
   rw [List.contains_cons, show (w == a) = false from beq_eq_false_iff_ne.2 (Ne.symm e), Bool.false_or]
theorem gOwn_len (w : Int) (o : List Int) (x : Int) : (gOwn w o x).length ≤ o.length + 1 := by
 unfold gOwn
 cases x == w
 ·simp
 ·cases o.contains w <;> simp
section
variable {r : List Int} (hr : ∀ x ∈ r, 1 ≤ x ∧ x ≤ 9) (h1 : 1 ≤ r.length) (h6 : r.length ≤ 6) {S : Int} (hS : 0 ≤ S ∧ S ≤ 3) {more : List Int} (hm : Byt more)
include hr h1 h6 hS
theorem own_in {w : Nat} (hw : w < 100) : f_q1s_run51 (S, rlen r S, ((w + 1 : Nat) : Int), 0, more, r, ownL r w) = some (.inl (S, rlen r S, ((w + 1 + 1 : Nat) : Int), more, r, ownL r (w + 1))) := by
 have _ := h1
 have _ := hS
 have hol := ownL_len r w
 unfold f_q1s_run51
 refine run_listI (step := fun x => f_q1s_n51 x.1 x.2.1 x.2.2.1 x.2.2.2.1 x.2.2.2.2.1 x.2.2.2.2.2.1 x.2.2.2.2.2.2) 0 r (fun i o => (S, rlen r S, ((w + 1 : Nat) : Int), (i : Int), more, r, o)) (gOwn ((w + 1 : Nat) : Int)) (fun i o => o.length ≤ 100 + i) _ (ownL r w) (by omega) (by omega) ?_ ?_
 ·intro i o hi hmm ho
  have hx := hr _ hmm
  have hgl := gOwn_len ((w + 1 : Nat) : Int) o (r.getD i 0)
  refine ⟨?_, by omega⟩
  show f_q1s_n51 S (rlen r S) ((w + 1 : Nat) : Int) i more r o = _
  unfold f_q1s_n51 gOwn
  rw [lt_true hi, inB_nat hi, toNat_nat, IntWalk.i64_in (r.getD i 0) (by omega), succ64 (i := i) (by omega), has_ok (by omega), fits_small (by simp; omega)]
  simp only [cond_true, Option.bind]
  cases r.getD i 0 == ((w + 1 : Nat) : Int)
  ·rfl
  ·simp only [cond_true]
   cases !o.contains ((w + 1 : Nat) : Int) <;> rfl
 ·intro _
  have hc : (ownL r w).contains ((w + 1 : Nat) : Int) = false := by
   cases hc : (ownL r w).contains ((w + 1 : Nat) : Int)
   ·rfl
   ·have := ownL_mem.1 (List.contains_iff_mem.1 hc)
    omega
  rw [gOwn_all hc, ← ownL_succ]
  show f_q1s_n51 S (rlen r S) ((w + 1 : Nat) : Int) (r.length : Nat) more r (ownL r (w + 1)) = _
  unfold f_q1s_n51
  rw [lt_neg, cond_false, succ64 (by omega)]
include hm
theorem run48_ok : f_q1s_run48 (S, rlen r S, 1, more, r, []) = some true := by
 have hd := due_rng hr h1 h6 hS
 have hS' : 0 ≤ S ∧ S ≤ 200 := by omega
 unfold f_q1s_run48
 refine run_count (step := fun x => f_q1s_n48 x.1 x.2.1 x.2.2.1 x.2.2.2.1 x.2.2.2.2.1 x.2.2.2.2.2) (τ := Unit) 9 (fun w _ => (S, rlen r S, ((w + 1 : Nat) : Int), more, r, ownL r w)) (fun _ _ => ()) true () (by omega) ?_ ?_
 ·intro w _ hw
  show f_q1s_n48 S (rlen r S) ((w + 1 : Nat) : Int) more r (ownL r w) = _
  unfold f_q1s_n48
  rw [decide_eq_true (show ((w + 1 : Nat) : Int) ≤ 9 by omega), cond_true]
  exact own_in hr h1 h6 hS (by omega)
 ·have hmid := midX_ok hr h1 h6 hS hm (X := Int × Int × Int × List Int × List Int × List Int)
  show f_q1s_n48 S (rlen r S) 10 more r (ownL r 9) = _
  unfold f_q1s_n48
  rw [show decide ((10 : Int) ≤ 9) = false from rfl, cond_false]
  by_cases h8 : (ownL r 9).length ≤ 8
  ·have hz := ownL_sz hr h1 h8
   have hW : rlen r S + S = ((rlen r S + S).toNat : Int) := by omega
   rw [decide_eq_true (show (((ownL r 9).length : Nat) : Int) ≤ 8 by omega), iFewest hz hS' (by omega) hW]
   have hle := few_le hz.pos hS.1 r (rlen r S + S).toNat (fun n hn => ownL_mem.2 ⟨hr n hn, hn⟩) (by rw [← off_end, rlen_off h1]; exact hW)
   have hf := few_rng hz.pos hS.1 (rlen r S + S).toNat
   have hb := build_ok hz.pos hS.1 (few (ownL r 9) S (rlen r S + S).toNat).toNat (rlen r S + S).toNat (by omega) (by omega)
   unfold fewest
   rw [if_neg (by omega)]
   simp only [cond_true, Option.bind, show ((0 : Int) != 0) = false from rfl, cond_false]
   rw [hb.1, decide_eq_false (show ¬ (((few (ownL r 9) S (rlen r S + S).toNat).toNat : Nat) : Int) > ((r.length : Nat) : Int) by omega)]
   exact hmid
  ·rw [decide_eq_false (show ¬ (((ownL r 9).length : Nat) : Int) ≤ 8 by omega)]
   exact hmid
theorem run40_ok {z fw : List Int} (hz : z.length ≤ 100) (hfl : fw.length ≤ 60) (hf : ∀ x ∈ fw, x ∈ z) (hr2 : ∀ x ∈ fw, 1 ≤ x ∧ x ≤ 200) : f_q1s_run40 (S, rlen r S, 0, more, r, z, fw) = some true := by
 unfold f_q1s_run40
 refine run_count (step := fun x => f_q1s_n40 x.1 x.2.1 x.2.2.1 x.2.2.2.1 x.2.2.2.2.1 x.2.2.2.2.2.1 x.2.2.2.2.2.2) (τ := Unit) fw.length (fun i _ => (S, rlen r S, (i : Int), more, r, z, fw)) (fun _ _ => ()) true () (by omega) ?_ ?_
 ·intro i _ hi
  have hmm := getD_mem' (d := 0) hi
  have hx := hr2 _ hmm
  show f_q1s_n40 S (rlen r S) i more r z fw = _
  unfold f_q1s_n40
  rw [lt_true hi, inB_nat hi, toNat_nat, IntWalk.i64_in (fw.getD i 0) (by omega), succ64 (by omega), has_ok (by omega), List.contains_iff_mem.2 (hf _ hmm)]
  rfl
 ·show f_q1s_n40 S (rlen r S) (fw.length : Nat) more r z fw = _
  unfold f_q1s_n40
  rw [lt_neg, cond_false, run48_ok hr h1 h6 hS hm]
  rfl
end
end Go.RR
namespace Go.RR
open Go
theorem same_i (l : List Int) (hl : l.length ≤ 1000000) : s_q18 l l = some true := by
 unfold s_q18 s_q0e
 have : (((List.length l : Nat) : Int) != ((List.length l : Nat) : Int)) = false := by simp
 rw [this, cond_false]
 unfold f_q0e_run4
 have h := run_all (step := fun x => f_q0e_n4 x.1 x.2.1 x.2.2.1 x.2.2.2) l.length (fun i => (((l.length : Nat) : Int), (i : Int), l, l)) (fun i => true) true false (by omega) ?_ ?_
 ·have h : iter (fun x => f_q0e_n4 x.1 x.2.1 x.2.2.1 x.2.2.2) FU (((l.length : Nat) : Int), 0, l, l) = some true := h.trans (by simp)
  rw [h]; rfl
 ·intro i hi
  show f_q0e_n4 (l.length : Nat) i l l = _
  unfold f_q0e_n4
  rw [lt_true hi, inB_nat hi, toNat_nat, succ64 (by omega)]
  have : (l.getD i 0 != l.getD i 0) = false := by simp
  rw [this]; rfl
 ·show f_q0e_n4 (l.length : Nat) (l.length : Nat) l l = _
  unfold f_q0e_n4
  rw [lt_neg, cond_false]
section
variable {r : List Int} (hr : ∀ x ∈ r, 1 ≤ x ∧ x ≤ 9) (h1 : 1 ≤ r.length) (h6 : r.length ≤ 6) {S : Int} (hS : 0 ≤ S ∧ S ≤ 3) {more : List Int} (hm : Byt more)
include hr h1 h6 hS
theorem stone_step {i : Nat} (hi : i < r.length) : f_q1s_n13 S (rlen r S) (off r S i) i more r (J r S) = some (.inl (S, rlen r S, off r S (i + 1), ((i + 1 : Nat) : Int), more, r, J r S)) := by
 have hS' : 0 ≤ S ∧ S ≤ 200 := by omega
 have hw := hr _ (getD_mem' (d := 0) hi)
 have ho := off_rng hr (by omega) hS' i (by omega)
 have e1 : s_q0q r S (off r S i) = some ((i : Int), 0) := by
  have := over_in hr (by omega) hS' hi (d := 0) (by omega)
  rwa [Int.add_zero] at this
 have e2 : s_q0q r S (off r S i + r.getD i 0 - 1) = some ((i : Int), 0) := by
  have := over_in hr (by omega) hS' hi (d := r.getD i 0 - 1) (by omega)
  rwa [show off r S i + (r.getD i 0 - 1) = off r S i + r.getD i 0 - 1 by omega] at this
 have e3 : ∃ v, s_q0q r S (off r S i + r.getD i 0) = some v ∧ (0 < S → v.2 = 6) := by
  by_cases h0 : 0 < S
  ·exact ⟨_, over_out hr (by omega) hS' hi h0, fun _ => rfl⟩
  ·obtain ⟨v, hv⟩ := over_some hr (by omega) hS' (place := off r S i + r.getD i 0) (by omega) h1
   exact ⟨v, hv, fun h => absurd h h0⟩
 obtain ⟨v, e3, e4⟩ := e3
 have b1 : ((i : Int) != (i : Int)) = false := by simp
 have b0 : ((0 : Int) != 0) = false := rfl
 have tail : (Option.bind (s_q0q r S (off r S i)) fun r14 => (cond (inB (i : Int) (List.length r)) (Option.bind (s_q0q r S (off r S i + r.getD i 0 - 1)) fun r15 => (cond (r14.2 != 0) (some (Sum.inr false)) (cond (r14.1 != (i : Int)) (some (Sum.inr false)) (cond (r15.2 != 0) (some (Sum.inr false)) (cond (r15.1 != (i : Int)) (some (Sum.inr false)) (cond (inB (i : Int) (List.length r)) (Option.bind (s_q0q r S (off r S i + r.getD i 0)) fun r16 => (cond (decide (S > 0)) (cond (r16.2 != 6) (some (Sum.inr false)) (some (Sum.inl (S, rlen r S, off r S i + r.getD i 0 + S, ((i + 1 : Nat) : Int), more, r, J r S)))) (some (Sum.inl (S, rlen r S, off r S i + r.getD i 0 + S, ((i + 1 : Nat) : Int), more, r, J r S))))) none)))))) none)) = (some (Sum.inl (S, rlen r S, off r S (i + 1), ((i + 1 : Nat) : Int), more, r, J r S)) : Option ((Int × Int × Int × Int × (List Int) × (List Int) × (List (Int × Int))) ⊕ Bool)) := by
  rw [e1, e2, e3, inB_nat hi, off_succ hi]
  simp only [Option.bind, cond_true, b0, b1, cond_false]
  by_cases h0 : 0 < S
  ·rw [decide_eq_true (show S > 0 from h0), e4 h0]; rfl
  ·rw [decide_eq_false (show ¬ S > 0 from h0)]; rfl
 unfold f_q1s_n13
 rw [lt_true hi, cond_true, IntWalk.i64_in ((i : Int) + 1) (by omega), show (i : Int) + 1 = ((i + 1 : Nat) : Int) by omega, toNat_nat, IntWalk.i64_in (r.getD i 0) (by omega), IntWalk.i64_in (off r S i + r.getD i 0) (by omega), IntWalk.i64_in (off r S i + r.getD i 0 - 1) (by omega), IntWalk.i64_in (off r S i + r.getD i 0 + S) (by omega)]
 by_cases h0 : 0 < i
 ·obtain ⟨jl, _⟩ := J_facts (OK9_okr hr h1 (by omega)) hS'
  have hj := J_get (r := r) (S := S) (i := i - 1) (by omega)
  rw [show i - 1 + 1 = i by omega] at hj
  have hin : inB ((i - 1 : Nat) : Int) (J r S).length = true := inB_nat (by omega)
  have b2 : (off r S i - S != off r S i - S) = false := by simp
  have b3 : (off r S i != off r S i) = false := by simp
  rw [decide_eq_true (show (i : Int) > 0 by omega), len_ix h0 (by omega), hin, toNat_nat, hj]
  dsimp only
  rw [IntWalk.i64_in (off r S i - S) (by omega), IntWalk.i64_in (off r S i) (by omega), b2, b3]
  simp only [cond_true, cond_false]
  exact tail
 ·rw [decide_eq_false (show ¬ (i : Int) > 0 by omega)]
  simp only [cond_false]
  exact tail
include hm
theorem run13_ok : f_q1s_run13 (S, rlen r S, 0, 0, more, r, J r S) = some true := by
 have hS' : 0 ≤ S ∧ S ≤ 200 := by omega
 have hd := due_rng hr h1 h6 hS
 unfold f_q1s_run13
 have key := run_count (step := fun x => f_q1s_n13 x.1 x.2.1 x.2.2.1 x.2.2.2.1 x.2.2.2.2.1 x.2.2.2.2.2.1 x.2.2.2.2.2.2) (τ := Unit) r.length (fun i _ => (S, rlen r S, off r S i, (i : Int), more, r, J r S)) (fun _ _ => ()) true () (by omega) ?_ ?_
 ·simp only [off_zero] at key
  exact key
 ·intro i _ hi
  exact stone_step hr h1 h6 hS hi
 ·obtain ⟨a, ha, ha2⟩ := at_ok hm (i := 1) (k := 2) (by omega)
  obtain ⟨b, hb, hb3⟩ := at_ok hm (i := 2) (k := 3) (by omega)
  have ha : s_q1z more 1 2 = some (a : Int) := ha
  have hb : s_q1z more 2 3 = some (b : Int) := hb
  obtain ⟨W, hW⟩ : ∃ W : Nat, rlen r S + S = (W : Int) := ⟨(rlen r S + S).toNat, by omega⟩
  show f_q1s_n13 S (rlen r S) (off r S r.length) (r.length : Nat) more r (J r S) = _
  unfold f_q1s_n13
  rw [lt_neg, cond_false, rlen_off h1, IntWalk.i64_in (rlen r S + S - S) (by omega), show rlen r S + S - S = rlen r S by omega, show (rlen r S != rlen r S) = false by simp, cond_false, ha, hb]
  simp only [Option.bind]
  rw [IntWalk.i64_in (2 + (a : Int)) (by omega), IntWalk.i64_in (4 + (b : Int)) (by omega)]
  generalize hz : ([2 + (a : Int), 4 + (b : Int), 8] : List Int) = z
  have hzl : z.length = 3 := by rw [← hz]; rfl
  have hzo : SzOK z := by
   refine ⟨by omega, fun n hn => ?_, fun i h0 hi => ?_⟩
   ·rw [← hz] at hn
    simp at hn
    omega
   ·rw [← hz]
    match i, h0, (show i < 3 by omega) with
    | 1, _, _ => show (2 + (a : Int)) < 4 + (b : Int); omega
    | 2, _, _ => show (4 + (b : Int)) < 8; omega
  rw [iFewest hzo hS' (by omega) hW, sFewest hzo hS' (by omega) hW, iCount hzo hS' (by omega) hW, sCount hzo hS' (by omega) hW]
  have hf := few_rng hzo.pos hS.1 W
  have ht := tot_few hzo.pos hS.1 (t := W) (by omega)
  have b0 : ((0 : Int) != 0) = false := rfl
  have b6 : ((6 : Int) != 6) = false := rfl
  have bt : (totC z S W 60 != totC z S W 60) = false := by simp
  by_cases hc : few z S W > 60
  ·have hE : fewest z S W = ([], 6) := by unfold fewest; rw [if_pos hc]
   rw [hE]
   dsimp only
   rw [b6, same_row [] (by simp), b0, bt, decide_eq_false (show ¬ totC z S W 60 > 0 by omega), run48_ok hr h1 h6 hS hm]
   rfl
  ·have hE : fewest z S W = (buildF z S (few z S W).toNat W, 0) := by unfold fewest; rw [if_neg hc]
   obtain ⟨k1, k2, k3⟩ := build_ok hzo.pos hS.1 (few z S W).toNat W (by omega) (by omega)
   have hpos := hf.2.2 (by omega)
   have hok : OKR (buildF z S (few z S W).toNat W) := ⟨fun x hx => hzo.rng x (k2 x hx), by omega, by omega⟩
   have hlen : rlen (buildF z S (few z S W).toNat W) S = rlen r S := by
    have := rlen_off (r := buildF z S (few z S W).toNat W) (S := S) hok.p
    rw [off_end, k3] at this
    omega
   rw [hE]
   dsimp only
   rw [b0, same_row _ (by omega), bt, decide_eq_true (show totC z S W 60 > 0 by omega), lengthOf_ok hok hS', hlen]
   simp only [Bool.not_true, cond_false, show ((0 : Int) == 0) = true from rfl, cond_true, show ((true == true) : Bool) = true from rfl, b0, show (rlen r S != rlen r S) = false by simp]
   rw [run40_ok hr h1 h6 hS hm (by omega) (by omega) k2 hok.w]
   rfl
end
theorem law_Rows {a0 : List Int} (hl0 : a0.length ≤ maxLen) (he0 : ∀ x ∈ a0, 0 ≤ x ∧ x ≤ 255) {a1 : List Int} (hl1 : a1.length ≤ maxLen) (he1 : ∀ x ∈ a1, 0 ≤ x ∧ x ≤ 255) : s_q1s a0 a1 = some true := by
 unfold s_q1s s_q1t
 by_cases h0 : a0.length > 3000
 ·rw [decide_eq_true (show ((a0.length : Nat) : Int) > 3000 by omega)]; rfl
 by_cases h1 : a1.length > 3000
 ·rw [decide_eq_false (show ¬ ((a0.length : Nat) : Int) > 3000 by omega), decide_eq_true (show ((a1.length : Nat) : Int) > 3000 by omega)]; rfl
 rw [decide_eq_false (show ¬ ((a0.length : Nat) : Int) > 3000 by omega), decide_eq_false (show ¬ ((a1.length : Nat) : Int) > 3000 by omega)]
 simp only [cond_false]
 have hb0 : Byt a0 := ⟨by omega, he0⟩
 have hb1 : Byt a1 := ⟨by omega, he1⟩
 obtain ⟨r, hr, r9, rl, r6⟩ := A2Row_ok hb0
 obtain ⟨s, hs, hs4⟩ := at_ok hb1 (i := 0) (k := 4) (by omega)
 have hs : s_q1z a1 0 4 = some (s : Int) := hs
 have ho := OK9_okr r9 rl (by omega)
 have hS' : 0 ≤ (s : Int) ∧ (s : Int) ≤ 200 := by omega
 obtain ⟨jl, _⟩ := J_facts ho hS'
 have hJ : s_q0v r (s : Int) = some (J r (s : Int), 0) := by
  unfold s_q0v
  rw [valid_ok ho, seam_ok hS', J_i ho hS']
  rfl
 rw [hr, hs]
 simp only [Option.bind]
 rw [rowText_ok r9 rl (by omega)]
 simp only
 rw [readRow_ok r9 rl (by omega), lengthOf_ok ho hS', slengthOf_ok ho hS', hJ]
 simp only
 rw [same_i r (by omega), same_row r (by omega), valid_ok ho, jl, len_ix rl (by omega), show (rlen r (s : Int) != rlen r (s : Int)) = false by simp, show (((r.length - 1 : Nat) : Int) != ((r.length - 1 : Nat) : Int)) = false by simp]
 simp only [show ((0 : Int) != 0) = false from rfl, Bool.not_true, cond_false]
 exact run13_ok r9 rl r6 (by omega) hb1
end Go.RR
