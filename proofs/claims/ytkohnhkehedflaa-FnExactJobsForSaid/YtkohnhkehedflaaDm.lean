/- The contract of slices.DeleteFunc with the program's own closure. No condition. -/
import Derived.Test.YtkohnhkehedflaaDl
import Derived.Test.YtkohnhkehedflaaRy
import Derived.Test.YtkohnhkehedflaaR3
set_option linter.unusedVariables false
set_option linter.unusedSimpArgs false
set_option maxRecDepth 100000
namespace Go.RR
open Go Go.Proofs Go.RowKit

abbrev rowsE : ET := .one (.ls .i64)
abbrev picA (a1 a2 : Int) (a3 : Nat → Int) : A := .rc [.v (.int .i8 a1), .v (.int .i8 a2), .fa 144 .u8 a3]
def headOf (r : List Int) : Int := r.getD 0 0
def bareR (f : Nat → Int) (r : List Int) : Bool := f (Int.toNat (headOf r)) == 0
def validR (r : List Int) : Bool := inB 0 r.length && inB (headOf r) 144
def dropR (q : List Int → Bool) (l : List (List Int)) : List (List Int) := l.filter fun r => !q r
noncomputable def s_gDeleteFunc (a0 : List (List Int)) (a1 a2 : Int) (a3 : Nat → Int) : Option (List (List Int) × Int × Int × (Nat → Int)) :=
  cond (Nat.blt 0 a0.length && (Nat.ble a0.length 1000000 && a0.all validR)) (some (dropR (bareR a3) a0, a1, a2, a3)) none
theorem closure_ok {r : List Int} {f : Nat → Int} (a1 a2 : Int) (h : validR r = true) : s_iJobsFor_1 r a1 a2 f = some (bareR f r) := by
  unfold validR at h
  rw [Bool.and_eq_true] at h
  unfold s_iJobsFor_1
  rw [show inB 0 (List.length r) = true from h.1, show inB (List.getD r 0 0) 144 = true from h.2]
  rfl
theorem all_getD' {l : List (List Int)} (h : l.all validR = true) {i : Nat} (hi : i < l.length) : validR (l.getD i []) = true :=
  List.all_eq_true.1 h _ (getD_mem' (d := []) hi)
theorem index_ok {l : List (List Int)} {f : Nat → Int} (a1 a2 : Int) (hl : l.length ≤ 1000000) (h : l.all validR = true) :
    ∃ k : Int, s_gIndexFunc_int64S_a l a1 a2 f = some k ∧ ((k = -1 ∧ ∀ m, m < l.length → bareR f (l.getD m []) = false) ∨ ∃ k0 : Nat, k = (k0 : Int) ∧ k0 < l.length ∧ bareR f (l.getD k0 []) = true ∧ ∀ m, m < k0 → bareR f (l.getD m []) = false) := by
  have hs : ∀ i, i < l.length → f_gIndexFunc_int64S_a_n2 (l.length : Nat) (i : Int) l a1 a2 f = some (cond (bareR f (l.getD i [])) (.inr (i : Int)) (.inl (((l.length : Nat) : Int), ((i + 1 : Nat) : Int), l, a1, a2, f))) := by
    intro i hi
    unfold f_gIndexFunc_int64S_a_n2
    rw [lt_true hi, inB_nat hi, toNat_nat, closure_ok a1 a2 (all_getD' h hi), IntWalk.i64_in ((i : Int) + 1) (by omega)]
    simp only [cond_true, Option.bind]
    cases bareR f (l.getD i []) <;> rfl
  have he : f_gIndexFunc_int64S_a_n2 (l.length : Nat) (l.length : Nat) l a1 a2 f = some (.inr (-1)) := by
    unfold f_gIndexFunc_int64S_a_n2
    rw [lt_neg, cond_false]
  obtain ⟨r, h1, _, h3⟩ := run_idx (step := fun x => f_gIndexFunc_int64S_a_n2 x.1 x.2.1 x.2.2.1 x.2.2.2.1 x.2.2.2.2.1 x.2.2.2.2.2) l.length (fun i => (((l.length : Nat) : Int), (i : Int), l, a1, a2, f)) (fun i => bareR f (l.getD i [])) hs he l.length 0 FU (by omega) (FU_big (pow_big (by omega)))
  refine ⟨r, h1, ?_⟩
  cases hf : (List.range' 0 l.length).find? (fun i => bareR f (l.getD i [])) with
  | none =>
    rw [hf] at h3
    refine .inl ⟨h3, fun m hm => ?_⟩
    have := List.find?_eq_none.1 hf m (List.mem_range'_1.2 ⟨by omega, by omega⟩)
    simpa using this
  | some k0 =>
    rw [hf] at h3
    have hm := List.mem_of_find?_eq_some hf
    have hp := List.find?_some hf
    refine .inr ⟨k0, h3, by have := List.mem_range'_1.1 hm; omega, hp, fun m hm' => ?_⟩
    obtain ⟨_, us, ts, e, hb⟩ := List.find?_eq_some_iff_append.1 hf
    have hmem : m ∈ us := by
      have e2 : (List.range' 0 l.length).take us.length = us := by rw [e]; simp
      have e3 : (List.range' 0 l.length)[us.length]? = some k0 := by rw [e]; simp
      have hk : us.length = k0 := by
        rw [List.getElem?_range'] at e3
        · simpa using e3
        · have := congrArg List.length e
          simp at this
          omega
      have e4 : us[m]? = some m := by
        rw [← e2, List.getElem?_take, if_pos (by omega), List.getElem?_range' (by have := List.mem_range'_1.1 hm; omega)]
        simp
      exact List.mem_of_getElem? e4
    have := hb m hmem
    simpa using this

/-! ### Rows of rows -/
theorem rows_len {I : Inn} {l : List (List Int)} {xs : List Value} (h : RowsC I rowsE l xs) : xs.length = l.length := by
  have := h.len
  rw [show rowsE.sz = 1 from rfl, Nat.mul_one] at this
  exact this
theorem rows_at {I : Inn} : ∀ {l : List (List Int)} {xs : List Value}, RowsC I rowsE l xs → ∀ (i : Nat) (v : Value), xs[i]? = some v → I .i64 (l.getD i []) v
  | [], xs, h, i, v, hv => by
    have h : xs = [] := h
    subst h; cases hv
  | x :: l, xs, h, i, v, hv => by
    obtain ⟨c1, c2, rfl, ⟨u, rfl, hu⟩, h2⟩ := h
    cases i with
    | zero => cases hv; exact hu
    | succ i => exact rows_at h2 i v hv
theorem rows_filter {pb : Value → Bool} {q : List Int → Bool} : ∀ {l : List (List Int)} {xs : List Value}, xs.length = l.length → (∀ (i : Nat) (v : Value), xs[i]? = some v → pb v = q (l.getD i [])) →
    ((dropR q l).length = (keepV pb xs).length) ∧ ∀ I : Inn, RowsC I rowsE l xs → RowsC I rowsE (dropR q l) (keepV pb xs)
  | [], [], _, _ => ⟨rfl, fun I h => h⟩
  | [], x :: xs, h, _ => by simp at h
  | x :: l, [], h, _ => by simp at h
  | x :: l, v :: xs, h, hq => by
    have hlen : xs.length = l.length := by simpa using h
    obtain ⟨ih1, ih2⟩ := rows_filter hlen fun i u hu => hq (i + 1) u hu
    have h0 : pb v = q x := hq 0 v rfl
    cases hx : q x with
    | true =>
      rw [hx] at h0
      have e1 : dropR q (x :: l) = dropR q l := by simp [dropR, List.filter_cons, hx]
      have e2 : keepV pb (v :: xs) = keepV pb xs := by simp [keepV, List.filter_cons, h0]
      rw [e1, e2]
      exact ⟨ih1, fun I hI => by
        obtain ⟨c1, c2, e, ⟨u, rfl, hu⟩, h2⟩ := hI
        obtain ⟨rfl, rfl⟩ := List.cons.inj e
        exact ih2 I h2⟩
    | false =>
      rw [hx] at h0
      have e1 : dropR q (x :: l) = x :: dropR q l := by simp [dropR, List.filter_cons, hx]
      have e2 : keepV pb (v :: xs) = v :: keepV pb xs := by simp [keepV, List.filter_cons, h0]
      rw [e1, e2]
      exact ⟨by simp only [List.length_cons, ih1], fun I hI => by
        obtain ⟨c1, c2, e, ⟨u, rfl, hu⟩, h2⟩ := hI
        obtain ⟨rfl, rfl⟩ := List.cons.inj e
        exact ⟨[v], keepV pb xs, rfl, ⟨v, rfl, hu⟩, ih2 I h2⟩⟩

/-! ### The contract -/
noncomputable def h_gDeleteFunc : HCon := fun xs hp => match xs, hp with
  | [.sl 0, .clo 143 [.ptr 1 [] 0]], [(0, some ⟨true, .arr (.one (.ls .i64)) a0⟩), (1, some ⟨true, .box (.rc [.v (.int .i8 a1), .v (.int .i8 a2), .fa 144 .u8 a3])⟩)] => .one (List (List Int) × Int × Int × (Nat → Int)) (s_gDeleteFunc a0 a1 a2 a3) (fun r => ⟨.a (.sl 2), [(0, none), (1, some ⟨true, .box (.rc [.v (.int .i8 r.2.1), .v (.int .i8 r.2.2.1), .fa 144 .u8 r.2.2.2])⟩), (2, some ⟨true, .arr (.one (.ls .i64)) r.1⟩)], 3⟩)
  | _, _ => HAns.fail
/-- What the program's closure says of a row that lies in a world. -/
def saysV (w : World) (f : Nat → Int) : Value → Bool
  | .slice (some a) _ _ => match w.cell? a with
    | some (.int _ x) => f (Int.toNat x) == 0
    | _ => false
  | _ => false
theorem saysV_ok {w : World} {O : Nat → Prop} {lo : Nat} {f : Nat → Int} {r : List Int} {v : Value} (h : Innr w O lo .i64 r v) (hv : validR r = true) : saysV w f v = bareR f r := by
  obtain ⟨ao, cap, rfl, _, h3⟩ := h
  unfold validR at hv
  rw [Bool.and_eq_true] at hv
  cases r with
  | nil => exact absurd hv.1 (by decide)
  | cons x r =>
    obtain ⟨g, o, rfl, _, _, _, hl⟩ := h3 (by simp)
    have := hl 0 (.int .i64 x) rfl
    rw [Nat.add_zero] at this
    unfold saysV
    simp only [this]
    rfl
theorem cells_pic {w : World} {a1 a2 : Int} {a3 : Nat → Int} {σ : Nat → Value} : CellsR w (picA a1 a2 a3) (enc σ (picA a1 a2 a3)) :=
  ⟨[.int .i8 a1], _, rfl, ⟨rfl, rfl⟩, [.int .i8 a2], _, rfl, ⟨rfl, rfl⟩, _, [], rfl, rfl, rfl⟩
theorem res_bool {w w' : World} {b : Bool} {v : Value} (h : ResR w w' (.one (.v (.bool b))) v) : v = .bool b := (h.2.1 0 _ _ rfl rfl).2
theorem res_int {w w' : World} {k : Int} {v : Value} (h : ResR w w' (.one (.v (.int .i64 k))) v) : v = .int .i64 k := (h.2.1 0 _ _ rfl rfl).2
end Go.RR
