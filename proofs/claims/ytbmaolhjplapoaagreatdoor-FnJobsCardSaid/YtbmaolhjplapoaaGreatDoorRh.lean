/- The operations, further: parts of values, new variables, literals, slices made. No condition. -/
import Derived.Test.YtbmaolhjplapoaaGreatDoorRg
set_option linter.unusedVariables false
set_option linter.unusedSimpArgs false
namespace Go.RR
open Go Go.RowKit
section
variable {R : Type} {W : SW} {X : Ctx} {s : AS} {o : Oper} {K : Eff → Option R} {r : R}
theorem run_part {T : Tab} (hT : TabOK W.P T) {t : Nat} {a x : A} {H : HF} {σ : Nat → Value} {i d : Nat} (hw : WfA H a) (hone : ∀ b, (σ b).oneCell' = true) (hg : getA a [i] = some x) (ho : offA a [i] = some d) (hfit : fitT T t x = true) (w : World) :
  (part t (enc σ a).toArray d).run W.P w = .ok (val σ x) w := by
 obtain ⟨ti, ht, hsz, hag⟩ := fitT_spec hfit
 obtain ⟨u, v, h1, h2, _⟩ := getA_enc σ [i] a x d hg ho
 have h3 := run_isAgg hT ht w
 have h4 := run_size hT ht
 unfold part
 rw [← hag] at h3
 cases hx : isAg x with
 | true =>
  rw [hx] at h3
  have : (enc σ a).toArray.extract d (d + ti.sz) = (enc σ x).toArray := by
   apply Array.toList_inj.1
   simp only [Array.toList_extract, List.extract_eq_take_drop, Nat.add_sub_cancel_left]
   rw [h1, List.append_assoc, ← h2, List.drop_left, ← hsz, ← enc_len σ x, List.take_left]
  simp only [Sem.run_bind, h3, Result.andThen_ok, if_true, h4, Sem.run_pure, this, val, hx]
 | false =>
  rw [hx] at h3
  have hl : (enc σ x).length = 1 := by rw [enc_len]; cases x <;> first | rfl | (simp [isAg] at hx)
  match he : enc σ x with
  | [] => rw [he] at hl; cases hl
  | [y] =>
   have : (enc σ a).toArray[d]? = some y := by
    rw [List.getElem?_toArray, h1, List.append_assoc, List.getElem?_append_right (by omega), h2, he]
    simp
   simp [h3, this, val, hx, he]
  | _ :: _ :: _ => rw [he] at hl; simp at hl
theorem val_ag {σ : Nat → Value} {a : A} (h : isAg a = true) : val σ a = .agg (enc σ a).toArray := by unfold val; rw [h]
theorem aIndex_ok (hT : TabOK W.P X.T) (hd : ∀ i, o.dst = some i → i < W.N) {t : Nat} {x y : Operand} (ho : o.op = .index t x y) (h : aIndex X s o t x y K = some r) : ∃ e, K e = some r ∧ OpOK W o s e := by
 unfold aIndex at h
 split at h
 ·rename_i n e z1 z2 a0 i ht hx hy
  split at h
  ·rename_i n' m z ti hdim hg he
   obtain ⟨hc, hh⟩ := cond_some h
   simp only [Bool.and_eq_true, Nat.beq_eq] at hc
   obtain ⟨⟨⟨rfl, hm⟩, hfit⟩, hi⟩ := hc
   obtain ⟨hi0, hi1⟩ := inB_spec hi
   obtain ⟨dd, e1, u1⟩ := (hT t _ ht).und
   cases dd <;> simp only [UndOK] at u1
   obtain ⟨rfl, rfl⟩ := u1
   refine ret_ok hh hd fun S H σ a w hs hsim => ?_
   obtain ⟨h1, h2⟩ := opA_val hs hsim hx
   obtain ⟨k, h3⟩ := opI_val hs hsim hy
   have hoff := (dimA_off hdim (i := i.toNat) (by omega)).1
   have hag : isAg a0 = true := by cases a0 <;> first | rfl | cases hdim
   have hp := run_part hT h2 hsim.one hg hoff hfit w
   have hsz := run_size hT he
   refine ⟨val σ z, ?_, rfl, getA_wf _ _ _ h2 hg⟩
   simp only [execOp, ho, Instr.index, h1, h3, val_ag hag, asIntOf, run_und e1, hi0, hi1, and_self, if_true, hsz, hm, hp, Sem.run_bind, Sem.run_pure, Result.andThen_ok]
  ·cases h
 ·rename_i z1 z2 z i ht hx hy
  obtain ⟨hc, hh⟩ := cond_some h
  obtain ⟨hi0, hi1⟩ := inB_spec hc
  obtain ⟨dd, e1, u1⟩ := (hT t _ ht).und
  cases dd <;> simp only [UndOK] at u1
  refine ret_ok hh hd fun S H σ a w hs hsim => ?_
  obtain ⟨h1, h2⟩ := opA_val hs hsim hx
  obtain ⟨k, h3⟩ := opI_val hs hsim hy
  refine ⟨_, ?_, rfl, rfl⟩
  have hz : i.toNat < z.size := by omega
  have hb : byteAt z i.toNat = ((z[i.toNat]'hz).toNat : Int) := by
   unfold byteAt
   have : z.data.toList.getD i.toNat 0 = z[i.toNat]'hz := by
    rw [List.getD_eq_getElem?_getD, List.getElem?_eq_getElem (by simpa using hz)]
    rfl
   rw [this]
  simp [execOp, ho, Instr.index, h1, h3, val, isAg, enc, asIntOf, run_und e1, hi0, hz, hb]
 ·cases h
theorem aField_ok (hT : TabOK W.P X.T) (hd : ∀ i, o.dst = some i → i < W.N) {t : Nat} {x : Operand} {i : Nat} (ho : o.op = .field t x i) (h : aField X s o t x i K = some r) : ∃ e, K e = some r ∧ OpOK W o s e := by
 unfold aField at h
 split at h
 ·rename_i fs z1 z2 as ht hx
  split at h
  ·rename_i d u z hfi hz
   obtain ⟨hc, hh⟩ := cond_some h
   simp only [Bool.and_eq_true, Nat.beq_eq] at hc
   obtain ⟨hfit, hoff⟩ := hc
   obtain ⟨dd, e1, u1⟩ := (hT t _ ht).und
   cases dd <;> simp only [UndOK] at u1
   rename_i fields
   have hf : ∃ f, fields[i]? = some f ∧ f.offset = d ∧ f.type = u := by
    rw [← u1, List.getElem?_map] at hfi
    cases hfe : fields.toList[i]? with
    | none => rw [hfe] at hfi; cases hfi
    | some f =>
     rw [hfe] at hfi
     simp only [Option.map_some, Option.some.injEq, Prod.mk.injEq] at hfi
     exact ⟨f, by simpa using hfe, hfi.1, hfi.2⟩
   obtain ⟨f, f1, f2, f3⟩ := hf
   refine ret_ok hh hd fun S H σ a w hs hsim => ?_
   obtain ⟨h1, h2⟩ := opA_val hs hsim hx
   have hg : getA (.rc as) [i] = some z := by simp only [getA, hz]
   have ho' : offA (.rc as) [i] = some d := by simp only [offA, hz, offA_nil]; rw [Nat.add_zero, hoff]
   have hp := run_part hT h2 hsim.one hg ho' hfit w
   refine ⟨val σ z, ?_, rfl, WfL_mem h2 z (List.mem_of_getElem? hz)⟩
   simp only [execOp, ho, Instr.field, h1, val_ag (show isAg (.rc as) = true from rfl), run_und e1, f1, f2, f3, asAgg, hp, Sem.run_bind, Sem.run_pure, Result.andThen_ok]
  ·cases h
 ·cases h
theorem new_box {S : Nat → SV} {H : HF} {σ : Nat → Value} {a : Act} {w : World} (hsim : Sim W S H σ a w) {n : Nat} (hn : H n = none) {z : A} (hz : WfA H z) (t : Nat) :
  Sim W S (setF H n (some (some ⟨true, .box z⟩))) (setF σ n (.pointer (some ⟨w.heap.size, 0, none⟩))) a (w.alloc (.cells (enc σ z).toArray t)) := by
 have hne : ∀ b', (H b').isSome = true → b' ≠ n := fun b' hb' e => by rw [e, hn] at hb'; cases hb'
 have hsh : Shape H (setF H n (some (some ⟨true, .box z⟩))) := fun b' hb' => by
  rw [setF_other _ _ (hne b' hb')]
  exact ⟨hb', fun blk' e => ⟨blk', e, fun _ _ hd => hd⟩⟩
 refine hsim.new (w' := w.alloc (.cells (enc σ z).toArray t)) (blk := ⟨true, .box z⟩) (v := .pointer (some ⟨w.heap.size, 0, none⟩)) rfl rfl rfl (by simp) (fun g hg => Below.heap_alloc w _ g hg) hn rfl (fun _ g hg => by simp [ownG] at hg; omega) ⟨WfA_mono hsh z hz, w.heap.size, t, rfl, W.hM _ hsim.bel.size, ?_⟩
 rw [Go.heap_alloc_new, enc_congr (fun b' hb' => setF_other _ _ (hne b' hb')) z hz]
theorem ptr_new (σ : Nat → Value) (n g : Nat) : val (setF σ n (.pointer (some ⟨g, 0, none⟩))) (.ptr n [] 0) = .pointer (some ⟨g, 0, none⟩) := by
 rw [val_ptr, setF_same]; rfl
theorem aBox_ok (hd : ∀ i, o.dst = some i → i < W.N) {t : Nat} {x : Operand} (ho : o.op = .box t x) {z : A} (hx : opA X.T s t x = some z) (h : retH o (.ptr s.n [] 0) [(s.n, some ⟨true, .box z⟩)] (s.n + 1) K = some r) : ∃ e, K e = some r ∧ OpOK W o s e := by
 refine retH_new h hd fun S H σ a w hs hsim hnew => ?_
 obtain ⟨h1, h2⟩ := opA_val hs hsim hx
 refine ⟨_, _, _, ?_, new_box hsim hnew h2 t, (ptr_new σ s.n w.heap.size).symm, ?_⟩
 ·have hc := val_cells hsim.one h2
  simp only [execOp, ho, Instr.box, newVar, newRow, h1, hc, Sem.run_bind, Sem.run_pure, Result.andThen_ok, run_newObj, World.alloc_eq]
 ·refine ⟨by rw [setF_same]; rfl, fun blk hb => ?_⟩
  rw [setF_same] at hb
  rw [← Option.some.inj (Option.some.inj hb)]
  exact offA_nil z
theorem zero_val (hT : TabOK W.P X.T) {t : Nat} {z : A} (hz : zeroA X.T 16 t = some z) : ∃ f, W.P.info? t = some f ∧ f.zero = some (val (fun _ => undef) z) ∧ ∀ H, WfA H z := by
 have : ∃ i, lk X.T t = some i := by
  cases hl : lk X.T t with
  | none => simp only [zeroA, hl] at hz; cases hz
  | some i => exact ⟨i, rfl⟩
 obtain ⟨i, hi⟩ := this
 obtain ⟨f, h1, h2, h3, h4⟩ := (hT t i hi).inf
 exact ⟨f, h1, (h4 z hz).1, (h4 z hz).2⟩
theorem zero_val' {z : A} (h : ∀ H, WfA H z) (σ : Nat → Value) : val (fun _ => undef) z = val σ z := (val_congr (H := fun _ => none) (fun b hb => by cases hb) (h _)).symm
theorem run_zero (hT : TabOK W.P X.T) {t : Nat} {z : A} (hz : zeroA X.T 16 t = some z) (σ : Nat → Value) (w : World) : (zeroValue t).run W.P w = .ok (val σ z) w := by
 obtain ⟨f, h1, h2, h3⟩ := zero_val hT hz
 rw [← zero_val' h3 σ]
 simp [zeroValue, typeInfo, h1, h2]
theorem zero_wf (hT : TabOK W.P X.T) {t : Nat} {z : A} (hz : zeroA X.T 16 t = some z) (H : HF) : WfA H z := (zero_val hT hz).choose_spec.2.2 H
theorem aAlloc_ok (hT : TabOK W.P X.T) (hd : ∀ i, o.dst = some i → i < W.N) {t : Nat} (ho : o.op = .alloc t) {z : A} (hz : zeroA X.T 16 t = some z) (h : retH o (.ptr s.n [] 0) [(s.n, some ⟨true, .box z⟩)] (s.n + 1) K = some r) : ∃ e, K e = some r ∧ OpOK W o s e := by
 refine retH_new h hd fun S H σ a w hs hsim hnew => ?_
 have h2 := zero_wf hT hz H
 refine ⟨_, _, _, ?_, new_box hsim hnew h2 t, (ptr_new σ s.n w.heap.size).symm, ?_⟩
 ·have hc := val_cells hsim.one h2
  have hr := run_zero hT hz σ
  simp only [execOp, ho, Instr.alloc, newVar, newRow, hr, hc, Sem.run_bind, Sem.run_pure, Result.andThen_ok, run_newObj, World.alloc_eq]
 ·refine ⟨by rw [setF_same]; rfl, fun blk hb => ?_⟩
  rw [setF_same] at hb
  rw [← Option.some.inj (Option.some.inj hb)]
  exact offA_nil z
theorem aMinMax_ok (hd : ∀ i, o.dst = some i → i < W.N) {mx : Bool} {ts xs : Array _} (ho : o.op = .call { callee := .builtin (match mx with | true => .max | false => .min), args := xs, argTypes := ts }) (h : aMinMax X s o mx ts.toList xs.toList K = some r) : ∃ e, K e = some r ∧ OpOK W o s e := by
 unfold aMinMax at h
 split at h
 ·rename_i k a k' b hx
  obtain ⟨hk, h2⟩ := cond_some h
  have := keq_eq hk
  subst this
  refine ret_ok h2 hd fun S H σ ac w hs hsim => ⟨_, ?_, rfl, rfl⟩
  have h1 := (opsA_vals hs hsim hx).1
  have h5 : xs.map ac.eval = #[.int k a, .int k b] := by
   apply Array.toList_inj.1
   rw [Array.toList_map, h1]
   rfl
  cases mx
  ·have : (if b < a then b else a) = min a b := by simp only [Int.min_def]; split <;> split <;> omega
   simp [execOp, ho, Go.resolve, invoke, builtin, h5, Builtin.min_, Builtin.min2, this, val, isAg, enc]
  ·have : (if b > a then b else a) = max a b := by simp only [Int.max_def]; split <;> split <;> omega
   simp [execOp, ho, Go.resolve, invoke, builtin, h5, Builtin.max_, Builtin.max2, this, val, isAg, enc]
 ·cases h
end
end Go.RR
