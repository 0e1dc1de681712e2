/- Words of a text: what the program splits and what the reference splits. -/
import Derived.Test.YtbmaolhjplapoaaDoorWb
import Derived.Lib.SplitLaws
set_option linter.unusedVariables false
set_option linter.unusedSimpArgs false
namespace Go.RR
open Go

/-- A text parted at each comma (or another such byte). -/
def spl (y : UInt8) : List UInt8 → List (List UInt8)
  | [] => [[]]
  | b :: l => if b = y then [] :: spl y l else match spl y l with
    | w :: ws => (b :: w) :: ws
    | [] => [[b]]
theorem spl_ne (y : UInt8) : ∀ l, spl y l ≠ []
  | [] => fun q => nomatch q
  | b :: l => by
    unfold spl
    split
    · exact fun q => nomatch q
    · split <;> exact fun q => nomatch q
theorem splitK_spl (y : UInt8) : ∀ l : List UInt8, Lib.splitK [y] 0 (Lib.count l [y]) l = spl y l
  | [] => by
    rw [Lib.count_miss (by simp [Lib.index])]; rfl
  | b :: l => by
    have ih := splitK_spl y l
    unfold spl
    by_cases h : b = y
    · subst h
      rw [if_pos rfl, Lib.count_cons_eq, Nat.add_comm]
      have hix : Lib.index (b :: l) [b] = 0 := by rw [Lib.index]; simp [List.isPrefixOf]
      unfold Lib.splitK
      rw [hix]
      simp only [show ((0 : Int) == -1) = false from rfl, Bool.false_eq_true, if_false]
      show [] :: Lib.splitK [b] 0 (Lib.count l [b]) l = _
      rw [ih]
    · rw [if_neg h, Lib.count_cons_ne b y l h, ← ih]
      have hp : ([y] : List UInt8).isPrefixOf (b :: l) = false := by simp [List.isPrefixOf, Ne.symm h]
      have hix : Lib.index (b :: l) [y] = if Lib.index l [y] == -1 then -1 else Lib.index l [y] + 1 := by rw [Lib.index, hp]; simp
      cases hk : Lib.count l [y] with
      | zero => rfl
      | succ k =>
        unfold Lib.splitK
        by_cases hm : Lib.index l [y] = -1
        · rw [hix, if_pos (beq_iff_eq.2 hm), hm]; rfl
        · have hge := Lib.index_ge l [y]
          obtain ⟨j, hj⟩ : ∃ j : Nat, Lib.index l [y] = j := ⟨(Lib.index l [y]).toNat, by omega⟩
          have hb : ((j : Int) == -1) = false := beq_eq_false_iff_ne.2 (by omega)
          have hb2 : ((j : Int) + 1 == -1) = false := beq_eq_false_iff_ne.2 (by omega)
          rw [hix, hj, hb]
          simp only [Bool.false_eq_true, if_false, hb2]
          have e1 : ((j : Int) + 1).toNat = j + 1 := by omega
          rw [e1, Int.toNat_natCast]
          show (b :: l).take (j + 1 + 0) :: Lib.splitK [y] 0 k ((b :: l).drop (j + 1 + 1)) = (b :: l.take (j + 0)) :: Lib.splitK [y] 0 k (l.drop (j + 1))
          rfl
def glue (cur : List UInt8) : List (List UInt8) → List (List UInt8)
  | w :: ws => (cur ++ w) :: ws
  | [] => [cur]
theorem ext_data (z : ByteArray) (a b : Nat) : (z.extract a b).data.toList = (z.data.toList.drop a).take (b - a) := by
  rw [ByteArray.data_extract, Array.toList_extract]
theorem split_run {z : ByteArray} {y : UInt8} (hz : z.size ≤ 2000000) : ∀ (r : List UInt8) (i m b : Nat) (out : List ByteArray), z.data.toList.drop i = r → i + r.length = z.size → b ≤ i → out.length ≤ i → r.length < m →
    ∃ ws, iter (fun x => f_sl01Split_n4 x.1 x.2.1 x.2.2.1 x.2.2.2.1 x.2.2.2.2) m (z, ((y.toNat : Nat) : Int), (b : Int), (i : Int), out) = some ws ∧ ws.map (·.data.toList) = out.map (·.data.toList) ++ glue (z.extract b i).data.toList (spl y r)
  | [], i, m + 1, b, out, h, hl, hb, ho, hm => by
    unfold iter
    dsimp only
    have hi : i = z.size := by simpa using hl
    subst hi
    have e : f_sl01Split_n4 z ((y.toNat : Nat) : Int) (b : Int) ((z.size : Nat) : Int) out = some (.inr (out ++ [z.extract b z.size])) := by
      unfold f_sl01Split_n4
      have hs : inS (b : Int) (z.size : Int) z.size = true := by
        unfold inS
        simp only [Bool.and_eq_true, decide_eq_true_eq]
        omega
      rw [lt_neg, cond_false, hs, cond_true, toNat_nat, toNat_nat, fits_small (by simp; omega)]; rfl
    rw [e]
    refine ⟨_, rfl, ?_⟩
    rw [List.map_append]
    show _ ++ [(z.extract b z.size).data.toList] = _ ++ [(z.extract b z.size).data.toList ++ []]
    rw [List.append_nil]
  | c :: r, i, m + 1, b, out, h, hl, hb, ho, hm => by
    obtain ⟨hi, hbt, hd⟩ := byte_drop h
    simp only [List.length_cons] at hl hm
    unfold iter
    dsimp only
    by_cases hc : c = y
    · have e : f_sl01Split_n4 z ((y.toNat : Nat) : Int) (b : Int) (i : Int) out = some (.inl (z, ((y.toNat : Nat) : Int), ((i + 1 : Nat) : Int), ((i + 1 : Nat) : Int), out ++ [z.extract b i])) := by
        unfold f_sl01Split_n4
        have hs : inS (b : Int) (i : Int) z.size = true := by
          unfold inS
          simp only [Bool.and_eq_true, decide_eq_true_eq]
          omega
        rw [lt_true hi, inB_nat hi, toNat_nat, hbt, hc, show (((y.toNat : Nat) : Int) == ((y.toNat : Nat) : Int)) = true by simp, hs, toNat_nat, fits_small (by simp; omega), succ64 (by omega)]; rfl
      rw [e]
      obtain ⟨ws, h1, h2⟩ := split_run hz r (i + 1) m (i + 1) (out ++ [z.extract b i]) hd (by omega) (Nat.le_refl _) (by simp; omega) (by omega)
      refine ⟨ws, h1, ?_⟩
      rw [h2, List.map_append, ext_data z (i + 1) (i + 1), Nat.sub_self, List.take_zero]
      have es : spl y (c :: r) = [] :: spl y r := by
        show (if c = y then _ else _) = _
        rw [if_pos hc]
      rw [es]
      have hne := spl_ne y r
      cases hsp : spl y r with
      | nil => exact absurd hsp hne
      | cons w ws' =>
        show out.map _ ++ [(z.extract b i).data.toList] ++ (([] ++ w) :: ws') = out.map _ ++ (((z.extract b i).data.toList ++ []) :: w :: ws')
        simp
    · have hcn : ¬ ((c.toNat : Nat) : Int) = ((y.toNat : Nat) : Int) := fun q => hc (UInt8.toNat_inj.1 (by omega))
      have e : f_sl01Split_n4 z ((y.toNat : Nat) : Int) (b : Int) (i : Int) out = some (.inl (z, ((y.toNat : Nat) : Int), (b : Int), ((i + 1 : Nat) : Int), out)) := by
        unfold f_sl01Split_n4
        rw [lt_true hi, inB_nat hi, toNat_nat, hbt, show (((c.toNat : Nat) : Int) == ((y.toNat : Nat) : Int)) = false from beq_eq_false_iff_ne.2 hcn, succ64 (by omega)]; rfl
      rw [e]
      obtain ⟨ws, h1, h2⟩ := split_run hz r (i + 1) m b out hd (by omega) (by omega) (by omega) (by omega)
      refine ⟨ws, h1, ?_⟩
      rw [h2]
      have hcur : (z.extract b (i + 1)).data.toList = (z.extract b i).data.toList ++ [c] := by
        rw [ext_data, ext_data, show i + 1 - b = (i - b) + 1 by omega, List.take_add_one, List.getElem?_drop, show b + (i - b) = i by omega]
        have : z.data.toList[i]? = some c := by
          have := congrArg (·[0]?) h
          simpa using this
        rw [this]; rfl
      rw [hcur]
      have es : spl y (c :: r) = match spl y r with
          | w :: ws => (c :: w) :: ws
          | [] => [[c]] := by
        show (if c = y then _ else _) = _
        rw [if_neg hc]
      rw [es]
      cases hsp : spl y r with
      | nil => exact absurd hsp (spl_ne y r)
      | cons w ws' =>
        show out.map _ ++ (((z.extract b i).data.toList ++ [c] ++ w) :: ws') = out.map _ ++ (((z.extract b i).data.toList ++ (c :: w)) :: ws')
        simp
  | [], i, 0, b, out, _, _, _, _, hm => by simp at hm
  | _ :: _, i, 0, b, out, _, _, _, _, hm => by simp at hm
theorem data_inj : ∀ {l l' : List ByteArray}, l.map (·.data.toList) = l'.map (·.data.toList) → l = l'
  | [], [], _ => rfl
  | [], _ :: _, h => by cases h
  | _ :: _, [], h => by cases h
  | a :: l, b :: l', h => by
    simp only [List.map_cons, List.cons.injEq] at h
    rw [data_inj h.2]
    congr 1
    apply ByteArray.ext
    exact Array.toList_inj.1 h.1
theorem split_two {z : ByteArray} {y : UInt8} (hz : z.size ≤ 2000000) : ∃ ws, s_sl01Split z ((y.toNat : Nat) : Int) = some ws ∧ s_stringsSplit z (⟨#[y]⟩ : ByteArray) = some ws ∧ ws.map (·.data.toList) = spl y z.data.toList := by
  have hzl : z.data.toList.length = z.size := rfl
  obtain ⟨ws, h1, h2⟩ := split_run (y := y) hz z.data.toList 0 FU 0 [] rfl (by omega) (Nat.le_refl _) (Nat.zero_le _) (FU_big (pow_big (by omega)))
  have h3 : ws.map (·.data.toList) = spl y z.data.toList := by
    rw [h2, ext_data, Nat.sub_self, List.take_zero]
    cases hsp : spl y z.data.toList with
    | nil => exact absurd hsp (spl_ne y _)
    | cons w ws' => rfl
  refine ⟨ws, h1, ?_, h3⟩
  unfold s_stringsSplit
  have e1 : Nat.ble z.size 1000000000 = true := by rw [Nat.ble_eq]; omega
  rw [e1, show Nat.ble 1 (⟨#[y]⟩ : ByteArray).size = true from rfl, Bool.and_self, cond_true]
  congr 1
  refine data_inj ?_
  rw [Lib.splitB_data, h3]
  exact splitK_spl y _
end Go.RR
