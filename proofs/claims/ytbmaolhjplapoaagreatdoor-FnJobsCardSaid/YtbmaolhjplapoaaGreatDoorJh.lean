/- Numbers in decimal: what the program reads and what the reference reads. -/
import Derived.Test.YtbmaolhjplapoaaGreatDoorVc
import Derived.Test.YtbmaolhjplapoaaGreatDoorRy
import Derived.Lib.ParseIntBTie
import Derived.Lib.SplitLaws
import Derived.Test.YtbmaolhjplapoaaGreatDoorWo
import Derived.Test.YtbmaolhjplapoaaGreatDoorJc
import Derived.Test.YtbmaolhjplapoaaGreatDoorPf
set_option linter.unusedVariables false
set_option linter.unusedSimpArgs false
namespace Go.RR
open Go
def dl (n : Nat) : List UInt8 := if n < 10 then [UInt8.ofNat (48 + n)] else if n < 100 then [UInt8.ofNat (48 + n / 10), UInt8.ofNat (48 + n % 10)] else [UInt8.ofNat (48 + n / 100), UInt8.ofNat (48 + n / 10 % 10), UInt8.ofNat (48 + n % 10)]
theorem dl_eq {n : Nat} (h : n < 1000) : Lib.decDigits n = dl n := by
 have one : ∀ m, m < 10 → Lib.decDigits m = [UInt8.ofNat (48 + m)] := fun m hm => by rw [Lib.decDigits, dif_pos hm]
 have step : ∀ m, ¬ m < 10 → Lib.decDigits m = Lib.decDigits (m / 10) ++ [UInt8.ofNat (48 + m % 10)] := fun m hm => by rw [Lib.decDigits, dif_neg hm]
 unfold dl
 by_cases h1 : n < 10
 ·rw [if_pos h1, one n h1]
 ·rw [if_neg h1, step n h1]
  by_cases h2 : n < 100
  ·rw [if_pos h2, one _ (by omega)]; rfl
  ·rw [if_neg h2, step _ (by omega), one _ (by omega), show n / 10 / 10 = n / 100 by omega]; rfl
theorem parse_all : ∀ n : Fin 1000, Lib.parseIntB 64 (dl n.1) = .ok (n.1 : Int) := by decide +kernel
theorem parse_dl {n : Nat} (h : n < 1000) : Lib.parseIntB 64 (dl n) = .ok (n : Int) := parse_all ⟨n, h⟩
theorem itoa_nat {n : Nat} (h : n < 1000) : Lib.itoa (n : Int) = dl n := by
 unfold Lib.itoa
 rw [if_neg (by omega), Int.toNat_natCast, dl_eq h]
def IsWid (s : ByteArray) (lo hi n : Nat) : Prop := lo ≤ n ∧ n ≤ hi ∧ s.data.toList = dl n
theorem read_yes {s : ByteArray} {lo hi n : Nat} (hs : s.size ≤ 2000000) (hh : hi < 1000) (h : IsWid s lo hi n) : s_q0n s (lo : Int) (hi : Int) = some ((n : Int), true) := by
 obtain ⟨h1, h2, h3⟩ := h
 unfold s_q0n
 rw [show Nat.ble s.size 281474976710656 = true by rw [Nat.ble_eq]; omega, cond_true, h3, parse_dl (by omega)]
 dsimp only
 rw [decide_eq_true (show -9223372036854775808 ≤ (n : Int) by omega), decide_eq_true (show (n : Int) ≤ 9223372036854775807 by omega)]
 have : readB s (n : Int) (lo : Int) (hi : Int) = true := by
  unfold readB
  rw [itoa_nat (by omega), Lib.toList_data, h3, decide_eq_true rfl, decide_eq_true (show (lo : Int) ≤ n by omega), decide_eq_true (show (n : Int) ≤ hi by omega)]; rfl
 rw [this]; rfl
end Go.RR
namespace Go.RR
open Go
def spl (y : UInt8) : List UInt8 → List (List UInt8)
 | [] => [[]]
 | b :: l => if b = y then [] :: spl y l else match spl y l with
  | w :: ws => (b :: w) :: ws
  | [] => [[b]]
theorem splitK_spl (y : UInt8) : ∀ l : List UInt8, Lib.splitK [y] 0 (Lib.count l [y]) l = spl y l
 | [] => by
  rw [Lib.count_miss (by simp [Lib.index])]; rfl
 | b :: l => by
  have ih := splitK_spl y l
  unfold spl
  by_cases h : b = y
  ·subst h
   rw [if_pos rfl, Lib.count_cons_eq, Nat.add_comm]
   have hix : Lib.index (b :: l) [b] = 0 := by rw [Lib.index]; simp [List.isPrefixOf]
   unfold Lib.splitK
   rw [hix]
   simp only [show ((0 : Int) == -1) = false from rfl, Bool.false_eq_true, if_false]
   show [] :: Lib.splitK [b] 0 (Lib.count l [b]) l = _
   rw [ih]
  ·rw [if_neg h, Lib.count_cons_ne b y l h, ← ih]
   have hp : ([y] : List UInt8).isPrefixOf (b :: l) = false := by simp [List.isPrefixOf, Ne.symm h]
   have hix : Lib.index (b :: l) [y] = if Lib.index l [y] == -1 then -1 else Lib.index l [y] + 1 := by rw [Lib.index, hp]; simp
   cases hk : Lib.count l [y] with
   | zero => rfl
   | succ k =>
    unfold Lib.splitK
    by_cases hm : Lib.index l [y] = -1
    ·rw [hix, if_pos (beq_iff_eq.2 hm), hm]; rfl
    ·have hge := Lib.index_ge l [y]
     obtain ⟨j, hj⟩ : ∃ j : Nat, Lib.index l [y] = j := ⟨(Lib.index l [y]).toNat, by omega⟩
     have hb : ((j : Int) == -1) = false := beq_eq_false_iff_ne.2 (by omega)
     have hb2 : ((j : Int) + 1 == -1) = false := beq_eq_false_iff_ne.2 (by omega)
     rw [hix, hj, hb]
     simp only [Bool.false_eq_true, if_false, hb2]
     have e1 : ((j : Int) + 1).toNat = j + 1 := by omega
     rw [e1, Int.toNat_natCast]
     show (b :: l).take (j + 1 + 0) :: Lib.splitK [y] 0 k ((b :: l).drop (j + 1 + 1)) = (b :: l.take (j + 0)) :: Lib.splitK [y] 0 k (l.drop (j + 1))
     rfl
end Go.RR
namespace Go.RR
open Go
theorem ble_le {a b : Nat} (h : a ≤ b) : Nat.ble a b = true := by rw [Nat.ble_eq]; exact h
def decB (n : Nat) : ByteArray := ⟨(Lib.decDigits n).toArray⟩
theorem dec_one {n : Nat} (h : n < 10) : Lib.decDigits n = [UInt8.ofNat (48 + n)] := by
 rw [Lib.decDigits, dif_pos h]
theorem dec_two {n : Nat} (h : ¬ n < 10) (h2 : n < 100) : Lib.decDigits n = [UInt8.ofNat (48 + n / 10), UInt8.ofNat (48 + n % 10)] := by
 rw [Lib.decDigits, dif_neg h, dec_one (by omega)]; rfl
theorem decB_size {n : Nat} (h : n < 100) : (decB n).size ≤ 2 := by
 show (Lib.decDigits n).toArray.size ≤ 2
 by_cases h1 : n < 10
 ·rw [dec_one h1]; exact (by decide : 1 ≤ 2)
 ·rw [dec_two h1 h]; exact Nat.le_refl 2
theorem iDec_all {n : Nat} (h : n ≤ 1000000) : s_q1m (n : Int) = some (decB n) := by
 unfold s_q1m s_q0b
 rw [show decide ((10 : Int) = 10) = true from rfl, decide_eq_true (show -9223372036854775808 ≤ (n : Int) by omega), decide_eq_true (show (n : Int) ≤ 9223372036854775807 by omega)]
 have : Lib.itoa (n : Int) = Lib.decDigits n := by
  unfold Lib.itoa
  rw [if_neg (by omega), Int.toNat_natCast]
 show some (⟨(Lib.itoa (n : Int)).toArray⟩ : ByteArray) = _
 rw [this]; rfl
theorem iDec_eq {n : Nat} (h : n < 100) : s_q1m (n : Int) = some (decB n) := iDec_all (by omega)
noncomputable def waitsX (x : Job) (k : Nat) : Bool := (bShr .u16 x.2 k) % 2 == 1
def comma : ByteArray := ⟨#[44]⟩
def blank : ByteArray := ⟨#[32]⟩
noncomputable def tailX (x : Job) (z : ByteArray) (k : Nat) : ByteArray := cond (waitsX x k) (z ++ (comma ++ decB k)) z
noncomputable def tailN (x : Job) (n : Nat) (z : ByteArray) : ByteArray := (List.range' 0 n).foldl (tailX x) z
noncomputable def wordB (n : Nat) (x : Job) : ByteArray := tailN x n (decB x.1.toNat)
theorem tail_size (x : Job) : ∀ (ks : List Nat) (z : ByteArray), (∀ k ∈ ks, k < 100) → (ks.foldl (tailX x) z).size ≤ z.size + 3 * ks.length
 | [], z, _ => by simp
 | k :: ks, z, h => by
  rw [List.foldl_cons]
  have h1 := tail_size x ks (tailX x z k) fun j hj => h j (List.mem_cons_of_mem _ hj)
  have h2 : (tailX x z k).size ≤ z.size + 3 := by
   unfold tailX
   cases waitsX x k
   ·exact Nat.le_add_right _ _
   ·show (z ++ (comma ++ decB k)).size ≤ _
    rw [ByteArray.size_append, ByteArray.size_append]
    have := decB_size (h k (List.mem_cons_self ..))
    have : comma.size = 1 := rfl
    omega
  simp only [List.length_cons]
  omega
theorem fitsB {a b : Nat} (h : a + b ≤ 1000000) : fits (a + b) = true := fits_small (by omega)
theorem iWaits_eq {x : Job} {k : Nat} (h2 : 0 ≤ x.2) : s_q0z x.1 x.2 (k : Int) = some (waitsX x k) := by
 unfold s_q0z waitsX
 have h0 : 0 ≤ bShr .u16 x.2 (k : Int) := (shr_range h2).1
 rw [dlt0, and1 h0]; rfl
theorem iTail_run {l : List Job} {x : Job} {i n : Nat} {z : ByteArray} {ws : List ByteArray} (hn : n ≤ 12) (hi : i ≤ 12) (hw : ws.length ≤ 12) (h2 : 0 ≤ x.2) (hz : z.size ≤ 100) :
  f_q19_run9 (z, ((l.length : Nat) : Int), (i : Int), ((n : Nat) : Int), 0, l, ws, x.1, x.2) = some (.inl (((l.length : Nat) : Int), ((i + 1 : Nat) : Int), l, ws ++ [tailN x n z])) := by
 unfold f_q19_run9
 refine run_countI n (fun k (o : ByteArray) => (o, ((l.length : Nat) : Int), (i : Int), ((n : Nat) : Int), (k : Int), l, ws, x.1, x.2)) (tailX x) (fun k o => o.size ≤ z.size + 3 * k) _ z (by omega) (Nat.le_refl _) ?_ ?_
 ·intro k o hk ho
  have hd := decB_size (n := k) (by omega)
  constructor
  ·show f_q19_n9 o (l.length : Nat) i n k l ws x.1 x.2 = _
   unfold f_q19_n9 tailX
   rw [lt_true hk, iWaits_eq h2, iDec_eq (by omega), succ64 (by omega)]
   simp only [cond_true, Option.bind]
   have e1 : fits ((⟨#[44]⟩ : ByteArray).size + (decB k).size) = true := fitsB (by show 1 + _ ≤ _; omega)
   have e2 : fits (o.size + ((⟨#[44]⟩ : ByteArray) ++ decB k).size) = true := fitsB (by rw [ByteArray.size_append]; show _ + (1 + _) ≤ _; omega)
   rw [e1, e2]
   cases waitsX x k <;> rfl
  ·have h2 := tail_size x [k] o (fun j hj => by simp at hj; omega)
   simp only [List.foldl_cons, List.foldl_nil, List.length_singleton] at h2
   omega
 ·intro _
  show f_q19_n9 (tailN x n z) (l.length : Nat) i n (n : Nat) l ws x.1 x.2 = _
  unfold f_q19_n9
  rw [lt_neg, cond_false, succ64 (by omega), fits_small (show (List.length ws + List.length ([tailN x n z] : List ByteArray)) * 16 ≤ 140737488355328 by simp; omega)]
  rfl
theorem foldl_map'' {α β : Type} (f : α → β) (l : List α) : l.foldl (fun s x => s ++ [f x]) ([] : List β) = l.map f := by
 have : ∀ (l : List α) (s : List β), l.foldl (fun s x => s ++ [f x]) s = s ++ l.map f := by
  intro l
  induction l with
  | nil => intro s; simp
  | cons x l ih => intro s; rw [List.foldl_cons, ih]; simp
 rw [this, List.nil_append]
noncomputable def textS (l : List Job) (z : ByteArray) (i : Nat) : ByteArray := cond (decide (0 < i)) (z ++ blank ++ wordB l.length (l.getD i (0, 0))) (z ++ wordB l.length (l.getD i (0, 0)))
noncomputable def textJ (l : List Job) : ByteArray := (List.range' 0 l.length).foldl (textS l) (⟨#[]⟩ : ByteArray)
theorem word_size {n : Nat} {x : Job} (hn : n ≤ 12) (hx : 1 ≤ x.1 ∧ x.1 ≤ 30) : (wordB n x).size ≤ 38 := by
 have h1 := tail_size x (List.range' 0 n) (decB x.1.toNat) (fun k hk => by have := List.mem_range'_1.1 hk; omega)
 have h2 := decB_size (n := x.1.toNat) (by omega)
 rw [List.length_range'] at h1
 show (tailN x n _).size ≤ 38
 unfold tailN
 omega
abbrev DaysOK (l : List Job) : Prop := l.length ≤ 12 ∧ ∀ x ∈ l, (1 ≤ x.1 ∧ x.1 ≤ 30) ∧ 0 ≤ x.2
theorem join_snoc (sep x : List UInt8) : ∀ ws : List (List UInt8), ws ≠ [] → Lib.join (ws ++ [x]) sep = Lib.join ws sep ++ (sep ++ x)
 | [], h => absurd rfl h
 | w :: ws, _ => by
  rw [List.cons_append, Lib.join_cons, Lib.join_cons]
  unfold Lib.joinTail
  rw [List.map_append, List.flatten_append]
  simp
theorem text_join (l : List Job) : ∀ n, n ≤ l.length → ((List.range' 0 n).foldl (textS l) (⟨#[]⟩ : ByteArray)).data.toList = Lib.join (((List.range' 0 n).map fun i => wordB l.length (l.getD i (0, 0))).map (·.data.toList)) blank.data.toList
 | 0, _ => rfl
 | n + 1, h => by
  have ih := text_join l n (by omega)
  rw [List.range'_concat, List.foldl_append, List.map_append, List.map_append]
  simp only [List.foldl_cons, List.foldl_nil, List.map_cons, List.map_nil, Nat.zero_add, Nat.one_mul]
  generalize (List.range' 0 n).foldl (textS l) (⟨#[]⟩ : ByteArray) = z at ih
  unfold textS
  by_cases h0 : 0 < n
  ·rw [decide_eq_true h0, cond_true, join_snoc _ _ _ (by
    intro q
    have := congrArg List.length q
    simp at this
    omega), ← ih, ByteArray.data_append, ByteArray.data_append, Array.toList_append, Array.toList_append, List.append_assoc]
  ·obtain rfl : n = 0 := by omega
   have hz : z.data.toList = [] := ih
   rw [decide_eq_false h0, cond_false, ByteArray.data_append, Array.toList_append, hz]
   exact (Lib.join_one _ _).symm
theorem iText_eq {l : List Job} (h : DaysOK l) : f_q19_run5 (((l.length : Nat) : Int), 0, l, []) = some (textJ l) := by
 obtain ⟨hn, hx⟩ := h
 unfold f_q19_run5
 refine run_countI l.length (fun i (ws : List ByteArray) => (((l.length : Nat) : Int), (i : Int), l, ws)) (fun ws i => ws ++ [wordB l.length (l.getD i (0, 0))]) (fun i ws => ws.length = i ∧ ∀ w ∈ ws, w.size ≤ 38) _ [] (by omega) ⟨rfl, fun w hw => by cases hw⟩ ?_ ?_
 ·intro i ws hi hI
  have hxi := hx _ (getD_mem' (d := ((0, 0) : Job)) hi)
  have hds := decB_size (n := (l.getD i (0, 0)).1.toNat) (by omega)
  have ed : s_q1m (IntKind.wrap .i64 (l.getD i (0, 0)).1) = some (decB (l.getD i (0, 0)).1.toNat) := by
   rw [IntWalk.i64_in _ (by omega)]
   have := iDec_eq (n := (l.getD i (0, 0)).1.toNat) (by omega)
   rw [Int.toNat_of_nonneg (by omega)] at this
   exact this
  constructor
  ·show f_q19_n5 (l.length : Nat) i l ws = _
   unfold f_q19_n5
   rw [lt_true hi, inB_nat hi, toNat_nat, ed]
   simp only [cond_true, Option.bind]
   exact iTail_run hn (by omega) (by rw [hI.1]; omega) hxi.2 (by omega)
  ·refine ⟨by simp [hI.1], fun w hw => ?_⟩
   rcases List.mem_append.1 hw with hw | hw
   ·exact hI.2 w hw
   ·have hw : w = wordB l.length (l.getD i (0, 0)) := by simpa using hw
    rw [hw]; exact word_size hn hxi.1
 ·intro _
  rw [foldl_map'' (fun i => wordB l.length (l.getD i (0, 0)))]
  show f_q19_n5 (l.length : Nat) (l.length : Nat) l ((List.range' 0 l.length).map fun i => wordB l.length (l.getD i (0, 0))) = _
  unfold f_q19_n5 s_q0v
  rw [lt_neg, cond_false]
  have ej := text_join l l.length (Nat.le_refl _)
  have ej : (textJ l).data.toList = Lib.join (((List.range' 0 l.length).map fun i => wordB l.length (l.getD i (0, 0))).map (·.data.toList)) (⟨#[32]⟩ : ByteArray).data.toList := ej
  rw [← ej]
  have hl : (textJ l).data.toList.length ≤ 140737488355328 := by
   have hs : (textJ l).data.toList.length = (textJ l).size := rfl
   have : ∀ n, n ≤ l.length → ((List.range' 0 n).foldl (textS l) (⟨#[]⟩ : ByteArray)).size ≤ 39 * n := by
    intro n
    induction n with
    | zero => intro _; exact Nat.le_refl _
    | succ n ih =>
     intro hn2
     have ih := ih (by omega)
     rw [List.range'_concat, List.foldl_append]
     simp only [List.foldl_cons, List.foldl_nil, Nat.zero_add, Nat.one_mul]
     have hws := word_size hn (hx _ (getD_mem' (d := ((0, 0) : Job)) (show n < l.length by omega))).1
     have hb : blank.size = 1 := rfl
     unfold textS at ih ⊢
     by_cases h0 : 0 < n
     ·rw [decide_eq_true h0, cond_true, ByteArray.size_append, ByteArray.size_append]; omega
     ·rw [decide_eq_false h0, cond_false, ByteArray.size_append]; omega
   have := this l.length (Nat.le_refl _)
   rw [hs]
   show (textJ l).size ≤ _
   unfold textJ
   omega
  rw [ble_le (show ((List.range' 0 l.length).map fun i => wordB l.length (l.getD i (0, 0))).length ≤ 1000000 by simp; omega), ble_le hl]
  rfl
end Go.RR
namespace Go.RR
open Go
theorem spl_one (y : UInt8) : ∀ a : List UInt8, y ∉ a → spl y a = [a]
 | [], _ => rfl
 | b :: a, h => by
  have hb : b ≠ y := fun e => h (by rw [e]; exact List.mem_cons_self ..)
  unfold spl
  rw [if_neg hb, spl_one y a fun hm => h (List.mem_cons_of_mem _ hm)]
theorem spl_cut (y : UInt8) : ∀ a b : List UInt8, y ∉ a → spl y (a ++ y :: b) = a :: spl y b
 | [], b, _ => by
  show spl y (y :: b) = _
  conv => lhs; unfold spl
  rw [if_pos rfl]
 | c :: a, b, h => by
  have hc : c ≠ y := fun e => h (by rw [e]; exact List.mem_cons_self ..)
  rw [List.cons_append]
  conv => lhs; unfold spl
  rw [if_neg hc, spl_cut y a b fun hm => h (List.mem_cons_of_mem _ hm)]
def tl (y : UInt8) (ws : List (List UInt8)) : List UInt8 := (ws.map fun w => y :: w).flatten
theorem spl_join (y : UInt8) : ∀ (ws : List (List UInt8)) (w : List UInt8), y ∉ w → (∀ u ∈ ws, y ∉ u) → spl y (w ++ tl y ws) = w :: ws
 | [], w, h, _ => by
  show spl y (w ++ []) = _
  rw [List.append_nil, spl_one y w h]
 | u :: ws, w, h, hs => by
  have e : tl y (u :: ws) = y :: (u ++ tl y ws) := rfl
  rw [e, spl_cut y w _ h, spl_join y ws u (hs u (List.mem_cons_self ..)) fun v hv => hs v (List.mem_cons_of_mem _ hv)]
theorem isplit {z : ByteArray} {y : UInt8} (hz : z.size ≤ 2000000) : ∃ ws, s_q0p z (⟨#[y]⟩ : ByteArray) = some ws ∧ ws.map (·.data.toList) = spl y z.data.toList := by
 refine ⟨Lib.splitB (⟨#[y]⟩ : ByteArray) 0 (Lib.countB z (⟨#[y]⟩ : ByteArray)) z, ?_, ?_⟩
 ·unfold s_q0p
  have e1 : Nat.ble z.size 1000000000 = true := by rw [Nat.ble_eq]; omega
  rw [e1]; rfl
 ·rw [Lib.splitB_data]
  exact splitK_spl y _
theorem join_tl (y : UInt8) (w : List UInt8) (ws : List (List UInt8)) : Lib.join (w :: ws) [y] = w ++ tl y ws := by
 rw [Lib.join_cons]; rfl
theorem dl_no : ∀ n : Fin 100, (44 : UInt8) ∉ dl n.1 ∧ (32 : UInt8) ∉ dl n.1 := by decide +kernel
theorem decB_data {n : Nat} (h : n < 1000) : (decB n).data.toList = dl n := by
 unfold decB
 rw [dl_eq h]
theorem read_dec {s : ByteArray} {lo hi n : Nat} (hs : s.data.toList = dl n) (h1 : lo ≤ n) (h2 : n ≤ hi) (h3 : hi < 100) : s_q0n s (lo : Int) (hi : Int) = some ((n : Int), true) := by
 refine read_yes ?_ (by omega) ⟨h1, h2, hs⟩
 have h4 : s.data.toList.length = s.size := rfl
 have h5 : (dl n).length ≤ 3 := by
  unfold dl
  split
  ·simp
  ·split <;> simp
 rw [hs] at h4
 omega
noncomputable def kOf (n : Nat) (x : Job) : List Nat := (List.range' 0 n).filter (waitsX x)
theorem tail_data (x : Job) : ∀ (ks : List Nat) (z : ByteArray), (∀ k ∈ ks, k < 12) → (ks.foldl (tailX x) z).data.toList = z.data.toList ++ tl 44 ((ks.filter (waitsX x)).map dl)
 | [], z, _ => by simp [tl]
 | k :: ks, z, h => by
  rw [List.foldl_cons, tail_data x ks _ fun j hj => h j (List.mem_cons_of_mem _ hj), List.filter_cons]
  unfold tailX
  cases waitsX x k with
  | false => rfl
  | true =>
   have hk := h k (List.mem_cons_self ..)
   rw [cond_true, if_pos rfl, ByteArray.data_append, ByteArray.data_append, Array.toList_append, Array.toList_append, decB_data (by omega), List.append_assoc]
   rfl
theorem word_data {n : Nat} {x : Job} (hn : n ≤ 12) (hx : 1 ≤ x.1 ∧ x.1 ≤ 30) : (wordB n x).data.toList = dl x.1.toNat ++ tl 44 ((kOf n x).map dl) := by
 unfold wordB tailN
 rw [tail_data x _ _ fun k hk => by have := List.mem_range'_1.1 hk; omega, decB_data (by omega)]
 rfl
theorem k_lt {n : Nat} {x : Job} {k : Nat} (h : k ∈ kOf n x) : k < n := by
 have := List.mem_range'_1.1 (List.mem_filter.1 h).1
 omega
theorem word_split {n : Nat} {x : Job} (hn : n ≤ 12) (hx : 1 ≤ x.1 ∧ x.1 ≤ 30) {w : ByteArray} (hw : w.data.toList = (wordB n x).data.toList) : ∃ ps, s_q0p w (⟨#[44]⟩ : ByteArray) = some ps ∧ ps.map (·.data.toList) = dl x.1.toNat :: (kOf n x).map dl := by
 have hsz : w.size ≤ 2000000 := by
  have h1 : w.data.toList.length = w.size := rfl
  have h2 : (wordB n x).data.toList.length = (wordB n x).size := rfl
  have h3 := word_size hn hx
  rw [hw] at h1
  omega
 obtain ⟨ps, h1, h2⟩ := isplit (y := 44) hsz
 refine ⟨ps, h1, ?_⟩
 rw [h2, hw, word_data hn hx]
 refine spl_join 44 _ _ (dl_no ⟨x.1.toNat, by omega⟩).1 fun u hu => ?_
 obtain ⟨k, hk, rfl⟩ := List.mem_map.1 hu
 have := k_lt hk
 exact (dl_no ⟨k, by omega⟩).1
theorem word_blank {n : Nat} {x : Job} (hn : n ≤ 12) (hx : 1 ≤ x.1 ∧ x.1 ≤ 30) : (32 : UInt8) ∉ (wordB n x).data.toList := by
 rw [word_data hn hx]
 intro h
 rcases List.mem_append.1 h with h | h
 ·exact (dl_no ⟨x.1.toNat, by omega⟩).2 h
 ·unfold tl at h
  obtain ⟨v, hv, hm⟩ := List.mem_flatten.1 h
  obtain ⟨u, hu, rfl⟩ := List.mem_map.1 hv
  obtain ⟨k, hk, rfl⟩ := List.mem_map.1 hu
  have := k_lt hk
  rcases List.mem_cons.1 hm with e | hm
  ·exact absurd e (by decide)
  ·exact (dl_no ⟨k, by omega⟩).2 hm
noncomputable def orK (a : Int) (ks : List Nat) : Int := ks.foldl (fun (a : Int) (k : Nat) => bOr .u16 a (bShl .u16 1 (k : Int))) a
theorem orK_bits : ∀ (ks : List Nat) (a : Int), (0 ≤ a ∧ a ≤ 65535) → (∀ k ∈ ks, k < 12) → (0 ≤ orK a ks ∧ orK a ks ≤ 65535) ∧ ∀ b, bt (orK a ks) b = (bt a b || ks.contains b)
 | [], a, ha, _ => ⟨ha, fun b => by simp [orK]⟩
 | k :: ks, a, ha, h => by
  obtain ⟨s1, s2⟩ := two_rng (i := k) (h k (List.mem_cons_self ..))
  obtain ⟨o1, o2⟩ := bOr_bt ha s1
  obtain ⟨r1, r2⟩ := orK_bits ks _ o1 fun j hj => h j (List.mem_cons_of_mem _ hj)
  refine ⟨r1, fun b => ?_⟩
  show bt (orK (bOr .u16 a (bShl .u16 1 (k : Int))) ks) b = _
  rw [r2, o2, List.contains_cons]
  have e : bt (bShl .u16 1 (k : Int)) b = (b == k) := by
   unfold bt
   rw [s2]
   by_cases q : k = b
   ·subst q; simp
   ·rw [decide_eq_false q]; simp; omega
  rw [e, Bool.or_assoc]
theorem orK_aft {n : Nat} {x : Job} (hn : n ≤ 12) (hx : 0 ≤ x.2 ∧ x.2 ≤ 65535) (hb : ∀ b, bt x.2 b = true → b < n) : orK 0 (kOf n x) = x.2 := by
 obtain ⟨r1, r2⟩ := orK_bits (kOf n x) 0 (by decide) fun k hk => by have := k_lt hk; omega
 refine int_bits r1.1 hx.1 fun b => ?_
 have h0 : bt 0 b = false := by unfold bt; exact Nat.zero_testBit b
 have h1 := r2 b
 rw [h0, Bool.false_or] at h1
 show bt (orK 0 (kOf n x)) b = bt x.2 b
 rw [h1]
 cases hq : bt x.2 b with
 | false =>
  cases hc : (kOf n x).contains b with
  | false => rfl
  | true =>
   have hm := List.mem_filter.1 (List.contains_iff_mem.1 hc)
   have hbn := List.mem_range'_1.1 hm.1
   have hw := hm.2
   unfold waitsX at hw
   rw [shr_bit hx.1 (by omega)] at hw
   unfold bt at hq
   rw [hq] at hw
   cases hw
 | true =>
  have hbn := hb b hq
  refine List.contains_iff_mem.2 (List.mem_filter.2 ⟨List.mem_range'_1.2 ⟨Nat.zero_le _, by omega⟩, ?_⟩)
  unfold waitsX
  rw [shr_bit hx.1 (by omega)]
  unfold bt at hq
  rw [hq]; rfl
theorem getD_data {ps : List ByteArray} {ls : List (List UInt8)} (h : ps.map (·.data.toList) = ls) {i : Nat} {u : List UInt8} (hu : ls[i]? = some u) : i < ps.length ∧ (ps.getD i (⟨#[]⟩ : ByteArray)).data.toList = u := by
 rw [← h, List.getElem?_map] at hu
 obtain ⟨p, hp, rfl⟩ := Option.map_eq_some_iff.1 hu
 refine ⟨(List.getElem?_eq_some_iff.1 hp).1, ?_⟩
 rw [List.getD_eq_getElem?_getD, hp]; rfl
theorem inner_run {z : ByteArray} {x2 x3 x7 : Int} {l : List Job} {ws ps : List ByteArray} {ks : List Nat} (hl : l.length ≤ 1000) (hx3 : 0 ≤ x3 ∧ x3 ≤ 1000) (hps : ps.map (·.data.toList) = ks.map dl) (hk : ∀ k ∈ ks, k < 12) (hkl : ks.length ≤ 1000) : ∀ (Q P : List Nat) (m : Nat), ks = P ++ Q → Q.length < m →
  iter (fun x => f_q1b_n11 x.1 x.2.1 x.2.2.1 x.2.2.2.1 x.2.2.2.2.1 x.2.2.2.2.2.1 x.2.2.2.2.2.2.1 x.2.2.2.2.2.2.2.1 x.2.2.2.2.2.2.2.2.1 x.2.2.2.2.2.2.2.2.2.1 x.2.2.2.2.2.2.2.2.2.2) m (z, true, x2, x3, ((ps.length : Nat) : Int), (P.length : Int), l, x7, orK 0 P, ws, ps) = some (.inl (z, x2, x3 + 1, l ++ [(x7, orK 0 ks)], ws))
 | [], P, m + 1, he, _ => by
  rw [List.append_nil] at he
  subst he
  have hpl : ps.length = ks.length := by have := congrArg List.length hps; simpa using this
  have e : f_q1b_n11 z true x2 x3 ((ps.length : Nat) : Int) (ks.length : Int) l x7 (orK 0 ks) ws ps = some (.inr (.inl (z, x2, x3 + 1, l ++ [(x7, orK 0 ks)], ws))) := by
   unfold f_q1b_n11 t_q1b_11
   try dsimp (config := {proj := false, iota := false, eta := false}) only
   try dsimp (config := {proj := false, iota := false, eta := false}) only
   rw [hpl, lt_neg, cond_false, fits_small (by simp; omega), IntWalk.i64_in (x3 + 1) (by omega)]
   rfl
  unfold iter
  dsimp only
  rw [e]
 | k :: Q, P, m + 1, he, hm => by
  have hpl : ps.length = ks.length := by have := congrArg List.length hps; simpa using this
  have hlt : P.length < ks.length := by rw [he]; simp
  have hk12 := hk k (by rw [he]; simp)
  obtain ⟨hi, hp⟩ := getD_data hps (i := P.length) (u := dl k) (by rw [he]; simp)
  have hr := read_dec (lo := 0) (hi := 11) hp (Nat.zero_le _) (by omega) (by decide)
  have hr : s_q0n (ps.getD P.length (⟨#[]⟩ : ByteArray)) 0 11 = some ((k : Int), true) := hr
  have hm2 : Q.length + 1 < m + 1 := hm
  have e : f_q1b_n11 z true x2 x3 ((ps.length : Nat) : Int) (P.length : Int) l x7 (orK 0 P) ws ps = some (.inl (z, true, x2, x3, ((ps.length : Nat) : Int), ((P.length + 1 : Nat) : Int), l, x7, orK 0 (P ++ [k]), ws, ps)) := by
   unfold f_q1b_n11 t_q1b_11
   try dsimp (config := {proj := false, iota := false, eta := false}) only
   try dsimp (config := {proj := false, iota := false, eta := false}) only
   rw [lt_true hi, inB_nat hi, toNat_nat, hr, succ64 (by omega)]
   simp only [cond_true, Option.bind]
   rw [decide_eq_false (show ¬ (k : Int) < 0 by omega)]
   unfold orK
   rw [List.foldl_append]
   rfl
  unfold iter
  dsimp only
  rw [e]
  have := inner_run (z := z) (x2 := x2) (x3 := x3) (x7 := x7) (l := l) (ws := ws) hl hx3 hps hk hkl Q (P ++ [k]) m (by rw [he]; simp) (by omega)
  rw [List.length_append] at this
  exact this
theorem text_split {l : List Job} (hD : DaysOK l) (hl : l ≠ []) : ∃ ws, s_q0p (textJ l) (⟨#[32]⟩ : ByteArray) = some ws ∧ ws.map (·.data.toList) = (List.range' 0 l.length).map (fun i => (wordB l.length (l.getD i (0, 0))).data.toList) := by
 have ht := text_join l l.length (Nat.le_refl _)
 have hn := hD.1
 have hpos : 0 < l.length := List.length_pos_iff.2 hl
 have hsz : (textJ l).size ≤ 2000000 := by
  have : ∀ n, n ≤ l.length → ((List.range' 0 n).foldl (textS l) (⟨#[]⟩ : ByteArray)).size ≤ 39 * n := by
   intro n
   induction n with
   | zero => intro _; exact Nat.le_refl _
   | succ n ih =>
    intro hn2
    have ih := ih (by omega)
    rw [List.range'_concat, List.foldl_append]
    simp only [List.foldl_cons, List.foldl_nil, Nat.zero_add, Nat.one_mul]
    have hws := word_size hn (hD.2 _ (getD_mem' (d := ((0, 0) : Job)) (show n < l.length by omega))).1
    have hb : blank.size = 1 := rfl
    unfold textS at ih ⊢
    by_cases h0 : 0 < n
    ·rw [decide_eq_true h0, cond_true, ByteArray.size_append, ByteArray.size_append]; omega
    ·rw [decide_eq_false h0, cond_false, ByteArray.size_append]; omega
  have := this l.length (Nat.le_refl _)
  show (textJ l).size ≤ _
  unfold textJ
  omega
 obtain ⟨ws, h1, h2⟩ := isplit (y := 32) hsz
 refine ⟨ws, h1, ?_⟩
 have ht : (textJ l).data.toList = Lib.join (((List.range' 0 l.length).map fun i => wordB l.length (l.getD i (0, 0))).map (·.data.toList)) [32] := ht
 rw [h2, ht, List.map_map]
 have hr : List.range' 0 l.length = 0 :: List.range' 1 (l.length - 1) := by
  obtain ⟨k, hk⟩ : ∃ k, l.length = k + 1 := ⟨l.length - 1, by omega⟩
  rw [hk, List.range'_succ]; rfl
 have hno : ∀ i, i < l.length → (32 : UInt8) ∉ (wordB l.length (l.getD i (0, 0))).data.toList := fun i hi => word_blank hn (hD.2 _ (getD_mem' (d := ((0, 0) : Job)) hi)).1
 rw [hr, List.map_cons, join_tl]
 refine (spl_join 32 _ _ (hno 0 hpos) fun u hu => ?_).trans rfl
 obtain ⟨i, hi, rfl⟩ := List.mem_map.1 hu
 have := List.mem_range'_1.1 hi
 exact hno i (by omega)
theorem read_back {l : List Job} (hj : JobsOK l) (hv : validB l = true) : ∃ z, s_q19 l = some z ∧ s_q1b z = some (l, 0) := by
 have hn := (valid_ord hv).1
 have hD : DaysOK l := ⟨hn, fun x hx => by
  obtain ⟨i, hi, e⟩ := List.getElem_of_mem hx
  have := valid_days hj hv hi
  unfold dayB at this
  rw [getD_lt (0, 0) hi, e] at this
  exact ⟨this, (hj x hx).2.1⟩⟩
 have et : s_q19 l = some (textJ l) := by
  unfold s_q19
  rw [iok_eq l (by omega), hv]
  exact iText_eq hD
 refine ⟨textJ l, et, ?_⟩
 by_cases h0 : l = []
 ·subst h0
  have he : ((textJ []).toList == (⟨#[]⟩ : ByteArray).toList) = true := by rw [show textJ [] = ⟨#[]⟩ from rfl]; simp
  unfold s_q1b t_q1b
  try dsimp (config := {proj := false, iota := false, eta := false}) only
  rw [he]; rfl
 ·have hpos : 0 < l.length := List.length_pos_iff.2 h0
  obtain ⟨ws, w1, w2⟩ := text_split hD h0
  have hwl : ws.length = l.length := by have := congrArg List.length w2; simpa using this
  have hne : ((textJ l).toList == (⟨#[]⟩ : ByteArray).toList) = false := by
   rw [Lib.toList_data, Lib.toList_data]
   cases hb : (textJ l).data.toList == (⟨#[]⟩ : ByteArray).data.toList with
   | false => rfl
   | true =>
    exfalso
    have hb : (textJ l).data.toList = [] := by simpa using hb
    have h1 := text_join l l.length (Nat.le_refl _)
    have h1 : (textJ l).data.toList = Lib.join (((List.range' 0 l.length).map fun i => wordB l.length (l.getD i (0, 0))).map (·.data.toList)) [32] := h1
    have hr : List.range' 0 l.length = 0 :: List.range' 1 (l.length - 1) := by
     obtain ⟨k, hk⟩ : ∃ k, l.length = k + 1 := ⟨l.length - 1, by omega⟩
     rw [hk, List.range'_succ]; rfl
    rw [hb, hr, List.map_cons, List.map_cons, join_tl, word_data hn (hD.2 _ (getD_mem' (d := ((0, 0) : Job)) hpos)).1] at h1
    have h2 := congrArg List.length h1
    have h3 : 1 ≤ (dl (l.getD 0 ((0, 0) : Job)).1.toNat).length := by
     unfold dl
     split
     ·simp
     ·split <;> simp
    simp only [List.length_nil, List.length_append] at h2
    omega
  unfold s_q1b t_q1b
  try dsimp (config := {proj := false, iota := false, eta := false}) only
  try dsimp (config := {proj := false, iota := false, eta := false}) only
  rw [hne, cond_false, w1]
  simp only [Option.bind_some]
  unfold f_q1b_run5
  rw [hwl]
  refine run_count (step := fun x => f_q1b_n5 x.1 x.2.1 x.2.2.1 x.2.2.2.1 x.2.2.2.2) (τ := Unit) l.length (fun i _ => (textJ l, ((l.length : Nat) : Int), (i : Int), l.take i, ws)) (fun _ _ => ()) (l, 0) () (by omega) (fun i _ hi => ?_) ?_
  ·show f_q1b_n5 (textJ l) ((l.length : Nat) : Int) (i : Int) (l.take i) ws = some (.inl (textJ l, ((l.length : Nat) : Int), ((i + 1 : Nat) : Int), l.take (i + 1), ws))
   have hx := hD.2 _ (getD_mem' (d := ((0, 0) : Job)) hi)
   have hx2 := (hj _ (getD_mem' (d := ((0, 0) : Job)) hi)).2
   obtain ⟨hiw, hwd⟩ := getD_data w2 (i := i) (u := (wordB l.length (l.getD i (0, 0))).data.toList) (by rw [List.getElem?_map, List.getElem?_range' hi]; simp)
   have hget : l[i]? = some (l.getD i (0, 0)) := by rw [List.getD_eq_getElem?_getD, List.getElem?_eq_getElem hi]; rfl
   have hbits : ∀ b, bt (l.getD i (0, 0)).2 b = true → b < l.length := fun b hb => by
    obtain ⟨q1, q2⟩ := aft_wait hj hi (k := b) hb
    exact wait_lt hj hv hi q1 q2
   generalize hw : ws.getD i (⟨#[]⟩ : ByteArray) = w at hwd
   generalize hxe : l.getD i ((0, 0) : Job) = x at hx hx2 hget hbits hwd
   obtain ⟨ps, p1, p2⟩ := word_split hn hx.1 hwd
   have hps : ps.length = (kOf l.length x).length + 1 := by have := congrArg List.length p2; simpa using this
   obtain ⟨_, hp0⟩ := getD_data p2 (i := 0) rfl
   have hr := read_dec (lo := 1) (hi := 30) hp0 (by omega) (by omega) (by decide)
   have hr : s_q0n (ps.getD 0 (⟨#[]⟩ : ByteArray)) 1 30 = some (((x.1.toNat : Nat) : Int), true) := hr
   have hxn : ((x.1.toNat : Nat) : Int) = x.1 := by omega
   rw [hxn] at hr
   have hs : inS 1 (((ps).length : Nat) : Int) (ps).length = true := by
    unfold inS
    simp only [Bool.and_eq_true, decide_eq_true_eq]
    omega
   have ht : List.drop 1 (List.take (Int.toNat (((ps).length : Nat) : Int)) (ps)) = (ps).drop 1 := by
    rw [toNat_nat, List.take_length]
   have hkl : (kOf l.length x).length ≤ l.length := by
    have := List.length_filter_le (waitsX x) (List.range' 0 l.length)
    simpa [kOf] using this
   have hd1 : (ps.drop 1).map (·.data.toList) = (kOf l.length x).map dl := by
    rw [List.map_drop, p2]; rfl
   unfold f_q1b_n5 t_q1b_5
   try dsimp (config := {proj := false, iota := false, eta := false}) only
   try dsimp (config := {proj := false, iota := false, eta := false}) only
   rw [lt_true hi, inB_nat hiw, toNat_nat, hw, p1]
   simp only [cond_true, Option.bind]
   rw [inB_of (show 0 ≤ (0 : Int) ∧ (0 : Int) < ((ps).length : Nat) by omega), cond_true, hr]
   dsimp only
   rw [hs, cond_true, ht, IntWalk.i8_in x.1 (by omega)]
   have e := inner_run (z := textJ l) (x2 := ((l.length : Nat) : Int)) (x3 := (i : Int)) (x7 := x.1) (l := l.take i) (ws := ws) (by simp; omega) (by omega) hd1 (fun k hk => by have := k_lt hk; omega) (by omega) (kOf l.length x) [] FU rfl (FU_big (pow_big (by omega)))
   rw [orK_aft hn hx2 hbits] at e
   refine Eq.trans e ?_
   rw [List.take_add_one, hget]
   rfl
  ·show f_q1b_n5 (textJ l) ((l.length : Nat) : Int) (l.length : Nat) (l.take l.length) ws = _
   unfold f_q1b_n5 t_q1b_5
   try dsimp (config := {proj := false, iota := false, eta := false}) only
   try dsimp (config := {proj := false, iota := false, eta := false}) only
   rw [List.take_length, lt_neg, cond_false, iok_eq l (by omega), hv, et]
   have hs : ((textJ l).toList == (textJ l).toList) = true := by simp
   simp only [Option.bind, hs]
   rfl
end Go.RR
namespace Go.RR
open Go
theorem law_Jobs {a0 : List Int} (hl0 : a0.length ≤ maxLen) (he0 : ∀ x ∈ a0, 0 ≤ x ∧ x ≤ 255) {a1 : List Int} (hl1 : a1.length ≤ maxLen) (he1 : ∀ x ∈ a1, 0 ≤ x ∧ x ≤ 255) : s_q23 a0 a1 = some true := by
 by_cases h0 : a0.length > 3000
 ·have h : s_q24 a0 a1 = true := by
   unfold s_q24
   rw [decide_eq_true (show ((a0.length : Nat) : Int) > 3000 by omega)]; rfl
  unfold s_q23 t_q23
  try dsimp (config := {proj := false, iota := false, eta := false}) only
  rw [h]; rfl
 by_cases h1 : a1.length > 3000
 ·have h : s_q24 a0 a1 = true := by
   unfold s_q24
   rw [decide_eq_false (show ¬ ((a0.length : Nat) : Int) > 3000 by omega), decide_eq_true (show ((a1.length : Nat) : Int) > 3000 by omega)]; rfl
  unfold s_q23 t_q23
  try dsimp (config := {proj := false, iota := false, eta := false}) only
  rw [h]; rfl
 have hb0 : Byt a0 := ⟨by omega, he0⟩
 have hb1 : Byt a1 := ⟨by omega, he1⟩
 refine law_part hb0 hb1 (tail_drawn hb1) (fun l _ hD => read_back hD.ok hD.valid) ?_
 unfold s_q24
 rw [decide_eq_false (show ¬ ((a0.length : Nat) : Int) > 3000 by omega), decide_eq_false (show ¬ ((a1.length : Nat) : Int) > 3000 by omega)]; rfl
end Go.RR
