/- The operations, further: loads, stores, places, new variables, literals. No condition. -/
import Derived.Test.YtbmaolhjplapoaaGreatDoorRf
set_option linter.unusedVariables false
set_option linter.unusedSimpArgs false
namespace Go.RR
open Go Go.RowKit
theorem offA_snoc (σ : Nat → Value) : ∀ (p : List Nat) (a x : A) (d : Nat) (i d' : Nat), getA a p = some x → offA a p = some d → offA x [i] = some d' → offA a (p ++ [i]) = some (d + d')
 | [], a, x, d, i, d', hg, ho, h => by
  rw [getA_nil] at hg
  rw [offA_nil] at ho
  obtain rfl := Option.some.inj hg
  obtain rfl := Option.some.inj ho
  rw [Nat.zero_add]
  exact h
 | j :: p, a, x, d, i, d', hg, ho, h => by
  cases a with
  | rc fs =>
   simp only [getA] at hg
   simp only [offA] at ho
   cases hf : fs[j]? with
   | none => rw [hf] at hg; cases hg
   | some b =>
    rw [hf] at hg ho
    simp only at hg ho
    cases hb : offA b p with
    | none => rw [hb] at ho; cases ho
    | some d0 =>
     rw [hb] at ho
     simp only [Option.some.injEq] at ho
     simp only [List.cons_append, offA, hf, offA_snoc σ p b x d0 i d' hg hb h]
     rw [← ho, Nat.add_assoc]
  | fa n k f =>
   cases p with
   | cons _ _ => cases hg
   | nil =>
    simp only [getA, Option.some.injEq] at hg
    subst hg
    cases h
  | fb n f =>
   cases p with
   | cons _ _ => cases hg
   | nil =>
    simp only [getA, Option.some.injEq] at hg
    subst hg
    cases h
  | fa2 n m k f =>
   cases p with
   | nil =>
    simp only [getA, Option.some.injEq] at hg
    subst hg
    simp only [offA] at ho h
    split at ho
    ·rename_i hj
     split at h
     ·rename_i hi
      obtain rfl := Option.some.inj ho
      obtain rfl := Option.some.inj h
      simp only [List.cons_append, List.nil_append, offA]
      rw [if_pos ⟨hj, hi⟩]
     ·cases h
    ·cases ho
   | cons q p =>
    cases p with
    | cons _ _ => cases hg
    | nil =>
     simp only [getA, Option.some.injEq] at hg
     subst hg
     cases h
  | _ => cases hg
theorem offC_snoc (σ : Nat → Value) {c : Con} {p : List Nat} {x : A} {d i d' : Nat} (hg : getC c p = some x) (ho : offC c p = some d) (h : offA x [i] = some d') : offC c (p ++ [i]) = some (d + d') := by
 cases c with
 | box a => exact offA_snoc σ p a x d i d' hg ho h
 | arr e l =>
  cases p with
  | nil => cases hg
  | cons j p =>
   simp only [getC] at hg
   simp only [offC] at ho
   split at ho
   ·rename_i hj
    cases hb : offA (e.toA (l.getD j e.dflt)) p with
    | none => rw [hb] at ho; cases ho
    | some d0 =>
     rw [hb] at ho
     obtain rfl := Option.some.inj ho
     simp only [List.cons_append, offC]
     rw [if_pos hj, offA_snoc σ p _ x d0 i d' hg hb h]
     simp only [Nat.add_assoc]
   ·cases ho
section
variable {R : Type} {W : SW} {X : Ctx} {s : AS} {o : Oper} {K : Eff → Option R} {r : R}
theorem getA_wf {H : HF} : ∀ (p : List Nat) (a x : A), WfA H a → getA a p = some x → WfA H x
 | [], a, x, h, hg => by
  rw [getA_nil] at hg
  rw [← Option.some.inj hg]; exact h
 | i :: p, a, x, h, hg => by
  cases a with
  | rc fs =>
   simp only [getA] at hg
   split at hg
   ·rename_i b hb
    exact getA_wf p b x (WfL_mem h b (List.mem_of_getElem? hb)) hg
   ·cases hg
  | fa n k f =>
   cases p with
   | cons _ _ => cases hg
   | nil => obtain rfl := Option.some.inj hg; rfl
  | fb n f =>
   cases p with
   | cons _ _ => cases hg
   | nil => obtain rfl := Option.some.inj hg; rfl
  | fa2 n m k f =>
   cases p with
   | nil => obtain rfl := Option.some.inj hg; trivial
   | cons j p =>
    cases p with
    | cons _ _ => cases hg
    | nil => obtain rfl := Option.some.inj hg; rfl
  | _ => cases hg
theorem toA_wf1 {H : HF} {t : RT} (x : t.den) (h : okA (t.toA x) = true) : WfA H (t.toA x) := by cases t <;> first | rfl | trivial | cases h
theorem fieldsA_get {H : HF} : ∀ (ts : List RT) (x : dens ts) (i : Nat) (y : A), (fieldsA ts x)[i]? = some y → ∃ (t : RT) (z : t.den), y = t.toA z
 | [], _, i, y, h => by cases h
 | [t], x, 0, y, h => ⟨t, x, (Option.some.inj h).symm⟩
 | [t], x, i + 1, y, h => by cases h
 | t :: u :: r, x, 0, y, h => ⟨t, x.1, (Option.some.inj h).symm⟩
 | t :: u :: r, x, i + 1, y, h => fieldsA_get (H := H) (u :: r) x.2 i y h
theorem okL_all : ∀ {fs : List A}, okL fs = true → ∀ y ∈ fs, okA y = true
 | [], _, y, hy => by cases hy
 | b :: bs, h, y, hy => by
  simp only [okL, Bool.and_eq_true] at h
  rcases List.mem_cons.1 hy with rfl | hy
  ·exact h.1
  ·exact okL_all h.2 y hy
theorem getA_toA1 {t : RT} (z : t.den) : ∀ (p : List Nat) (x : A), getA (t.toA z) p = some x → okA x = true → okA (t.toA z) = true
 | [], x, hg, hok => by rw [getA_nil] at hg; rw [Option.some.inj hg]; exact hok
 | i :: p, x, hg, hok => by cases t <;> first | rfl | cases hg
theorem okA_wf {c : Con} {p : List Nat} {H : HF} {x : A} (hw : WfC H c) (hg : getC c p = some x) (hok : okA x = true) : WfA H x := by
 cases c with
 | box a => exact getA_wf p a x hw hg
 | arr e l =>
  cases p with
  | nil => cases hg
  | cons i p =>
   simp only [getC] at hg
   cases e with
   | one t => exact getA_wf p _ x (toA_wf1 (t := t) _ (getA_toA1 (t := t) _ p x hg hok)) hg
   | st ts =>
    cases p with
    | nil =>
     rw [getA_nil] at hg
     obtain rfl := Option.some.inj hg
     refine WfL_of fun y hy => ?_
     obtain ⟨i, hi⟩ := List.mem_iff_getElem?.1 hy
     obtain ⟨t, z, rfl⟩ := fieldsA_get (H := H) ts _ i y hi
     exact toA_wf1 _ (okL_all hok _ hy)
    | cons j p =>
     simp only [ET.toA, getA] at hg
     split at hg
     ·rename_i b hb
      obtain ⟨t, z, rfl⟩ := fieldsA_get (H := H) ts _ j b hb
      exact getA_wf p _ x (toA_wf1 _ (getA_toA1 _ p x hg hok)) hg
     ·cases hg
theorem RowsC_ints {I : Inn} (k : IntKind) : ∀ l : List Int, RowsC I (.one (.i k)) l (l.map (Value.int k))
 | [] => rfl
 | x :: l => ⟨[.int k x], _, rfl, rfl, RowsC_ints k l⟩
theorem owned_new {H : HF} {σ : Nat → Value} {n : Nat} {c : Con} {v : Value} {g : Nat} (h : Owned (setF H n (some (some ⟨false, c⟩))) (setF σ n v) g) : Owned H σ g := by
 obtain ⟨b, c', h1, h2⟩ := h
 by_cases e : b = n
 ·rw [e, setF_same] at h1; cases h1
 ·rw [setF_other _ _ e] at h1 h2
  exact ⟨b, c', h1, h2⟩
theorem run_loadVar' {T : Tab} (hT : TabOK W.P T) {t : Nat} {i : TI} (ht : lk T t = some i) {w : World} {g o : Nat} {cs : List Value} (hl : cs.length = i.sz) (h : Lies w g o cs) :
  (loadVar t ⟨g, o, none⟩).run W.P w = .ok (match i.k.agg with | true => .agg cs.toArray | false => cs.headD undef) w ∨ (i.k.agg = false ∧ i.sz ≠ 1) := by
 unfold loadVar
 have h1 := run_isAgg hT ht w
 have h2 := run_size hT ht w
 cases hk : i.k.agg with
 | true =>
  left
  rw [hk] at h1
  have h3 : (loadCells ⟨g, o, none⟩ cs.length).run W.P w = .ok cs.toArray w := run_loadCells_list w _ cs (fun j v hv => by rw [Addr.add_lit]; exact h j v hv)
  simp only [Sem.run_bind, h1, Result.andThen_ok, if_true, h2, ← hl, h3, Sem.run_pure]
 | false =>
  by_cases hs : i.sz = 1
  ·left
   rw [hk] at h1
   match cs, hl with
   | [], hl => rw [hs] at hl; cases hl
   | [u], hl =>
    have := h 0 u rfl
    simp only [Nat.add_zero] at this
    simp [h1, run_load, this]
   | _ :: _ :: _, hl => rw [hs] at hl; simp at hl
  ·exact .inr ⟨rfl, hs⟩
theorem aLoad_ok (hT : TabOK W.P X.T) (hd : ∀ i, o.dst = some i → i < W.N) {t : Nat} {x : Operand} (ho : o.op = .load t x) (h : aLoad X s o t x K = some r) : ∃ e, K e = some r ∧ OpOK W o s e := by
 unfold aLoad at h
 split at h
 ·rename_i b p off hx
  split at h
  ·rename_i own c hb
   split at h
   ·rename_i e l hg
    obtain ⟨hfit, h⟩ := cond_some h
    refine retH_new h hd fun S H σ a w hs hsim hnew => ?_
    obtain ⟨h1, h2⟩ := opA_val hs hsim hx
    have hoff := h2.2 _ (hs.blk hb)
    obtain ⟨g, o', cs, h3, h4, h5⟩ := ptr_place hsim (hs.blk hb) hoff
    rcases getC_cells hg hoff h4 with ⟨k, l', w', u, v, he, hI, rfl, hu⟩ | ⟨hcase, _⟩
    ·obtain ⟨ti, ht, hsz, hag⟩ := fitT_spec hfit
     have hlie : Lies w g (o' + off) [w'] := by
      intro j v' hv'
      match j, hv' with
      | 0, hv' =>
       simp at hv'
       subst hv'
       have := h5 off w' (by rw [← hu]; simp)
       simpa using this
      | j + 1, hv' => simp at hv'
     have hrun := run_loadVar' hT ht (cs := [w']) hsz hlie
     rw [← hag] at hrun
     rcases hrun with hrun | ⟨_, hz⟩
     ·injection he with he1 he2
      subst he1
      obtain rfl := eq_of_heq he2
      obtain ⟨ao, cap, hw', hcap, hne⟩ := hI
      refine ⟨w', w', w, ?_, ?_, ?_, ?_⟩
      ·simp only [execOp, ho, Instr.loadAt, h1, val_ptr, h3, Instr.sureAddr, Sem.run_bind, Sem.run_pure, Result.andThen_ok, hrun]
       rfl
      ·refine hsim.new rfl rfl rfl (Nat.le_refl _) (fun _ _ => rfl) hnew (by rw [hw']; rfl) (fun hf => by cases hf) ?_
       refine ⟨_, ao, cap, RowsC_ints k _, hw', hcap, fun hl => ?_⟩
       obtain ⟨g1, o1, e1, _, e2, e3, e4⟩ := hne hl
       exact ⟨g1, o1, e1, e2, fun ho => e3 (owned_new ho), e4⟩
      ·rw [val_sl, setF_same]
      ·show (setF H s.n _ s.n).isSome = true
       rw [setF_same]; rfl
     ·exact absurd (hsz.symm) hz
    ·rcases hcase with hf | ⟨a0, rfl, hg0⟩
     ·cases hf
     ·have hw0 := hsim.blk b _ (hs.blk hb)
      have : WfA H a0 := by cases own <;> exact hw0.1
      exact (getA_wf p a0 _ this hg0).elim
   ·rename_i y hnl hg
    obtain ⟨hfit, h⟩ := cond_some h
    simp only [Bool.and_eq_true] at hfit
    refine ret_ok h hd fun S H σ a w hs hsim => ?_
    obtain ⟨h1, h2⟩ := opA_val hs hsim hx
    have hoff := h2.2 _ (hs.blk hb)
    obtain ⟨g, o', cs, h3, h4, h5⟩ := ptr_place hsim (hs.blk hb) hoff
    rcases getC_cells hg hoff h4 with ⟨k, l', w', u, v, he, hI, rfl, hu⟩ | ⟨_, u, v, he, hu, _⟩
    ·exact absurd he (hnl _ _)
    ·obtain ⟨ti, ht, hsz, hag⟩ := fitT_spec hfit.2
     have hlie : Lies w g (o' + off) (enc σ y) := by
      intro j v' hv'
      have := h5 (off + j) v' (by
       rw [he, List.append_assoc, List.getElem?_append_right (by omega), hu, Nat.add_sub_cancel_left, List.getElem?_append_left (List.getElem?_eq_some_iff.1 hv').1]
       exact hv')
      rw [Nat.add_assoc]
      exact this
     have hrun := run_loadVar' hT ht (by rw [enc_len, hsz]) hlie
     rw [← hag] at hrun
     rcases hrun with hrun | ⟨hz1, hz2⟩
     ·refine ⟨val σ y, ?_, rfl, ?_⟩
      ·simp only [execOp, ho, Instr.loadAt, h1, val_ptr, h3, Instr.sureAddr, Sem.run_bind, Sem.run_pure, Result.andThen_ok, hrun]
       rfl
      ·refine okA_wf ?_ hg hfit.1
       have := hsim.blk b _ (hs.blk hb)
       cases own <;> cases c <;> first | trivial | exact this.1
     ·exfalso
      apply hz2
      rw [← hsz]
      cases y <;> first | rfl | (simp [isAg] at hz1)
   ·cases h
  ·cases h
 ·cases h
theorem setRow_same {w : World} {g : Nat} {cur new : Array Value} {ty : TypeId} (hg : w.heap[g]? = some (.cells cur ty (0, 0))) : (w.setRow g new).heap[g]? = some (.cells new ty (0, 0)) := setRow_heap w g cur new ty (0, 0) hg
theorem splice_eq {u x v y rest : List Value} (hl : y.length = x.length) : (u ++ x ++ v ++ rest).take u.length ++ y ++ (u ++ x ++ v ++ rest).drop (u.length + y.length) = u ++ y ++ v ++ rest := by
 have h1 : (u ++ x ++ v ++ rest).take u.length = u := by
  rw [List.append_assoc, List.append_assoc]; exact List.take_left
 have h2 : (u ++ x ++ v ++ rest).drop (u.length + y.length) = v ++ rest := by
  rw [hl, ← List.length_append, List.append_assoc]; exact List.drop_left
 rw [h1, h2, List.append_assoc, List.append_assoc, List.append_assoc]
theorem offA_get : ∀ (p : List Nat) (a : A) (d : Nat), offA a p = some d → ∃ x, getA a p = some x
 | [], a, d, _ => ⟨a, getA_nil a⟩
 | i :: p, a, d, h => by
  cases a with
  | rc fs =>
   simp only [offA] at h
   simp only [getA]
   cases hf : fs[i]? with
   | none => rw [hf] at h; cases h
   | some b =>
    rw [hf] at h
    simp only at h ⊢
    cases hb : offA b p with
    | none => rw [hb] at h; cases h
    | some d' => exact offA_get p b d' hb
  | fa n k f =>
   cases p with
   | nil => exact ⟨_, rfl⟩
   | cons _ _ => cases h
  | fb n f =>
   cases p with
   | nil => exact ⟨_, rfl⟩
   | cons _ _ => cases h
  | fa2 n m k f =>
   cases p with
   | nil => exact ⟨_, rfl⟩
   | cons j p =>
    cases p with
    | nil => exact ⟨_, rfl⟩
    | cons _ _ => cases h
  | _ => cases h
theorem offC_get {c : Con} {p : List Nat} {d : Nat} (h : offC c p = some d) : ∃ x, getC c p = some x := by
 cases c with
 | box a => exact offA_get p a d h
 | arr e l =>
  cases p with
  | nil => cases h
  | cons i p =>
   simp only [offC] at h
   split at h
   ·cases hb : offA (e.toA (l.getD i e.dflt)) p with
    | none => rw [hb] at h; cases h
    | some d' => exact offA_get p _ d' hb
   ·cases h
theorem setA_wf {H : HF} : ∀ (p : List Nat) (a z a' : A), WfA H a → WfA H z → setA a p z = some a' → WfA H a'
 | [], a, z, a', h, hz, hs => by
  rw [setA_nil] at hs
  obtain ⟨_, hs⟩ := cond_some hs
  rw [← Option.some.inj hs]; exact hz
 | i :: p, a, z, a', h, hz, hs => by
  cases a with
  | rc fs =>
   simp only [setA] at hs
   split at hs
   ·rename_i b hb
    split at hs
    ·rename_i b' hb'
     rw [← Option.some.inj hs]
     have hw := setA_wf p b z b' (WfL_mem h b (List.mem_of_getElem? hb)) hz hb'
     exact WfL_of fun y hy => (List.mem_or_eq_of_mem_set hy).elim (WfL_mem h y) (fun e => e ▸ hw)
    ·cases hs
   ·cases hs
  | fa n k f =>
   cases p with
   | cons _ _ => cases hs
   | nil =>
    cases z with
    | v q =>
     cases q with
     | int k' q => obtain ⟨_, hs⟩ := cond_some hs; rw [← Option.some.inj hs]; trivial
     | _ => cases hs
    | _ => cases hs
  | fb n f =>
   cases p with
   | cons _ _ => cases hs
   | nil =>
    cases z with
    | v q =>
     cases q with
     | bool q => rw [← Option.some.inj hs]; trivial
     | _ => cases hs
    | _ => cases hs
  | fa2 n m k f =>
   cases p with
   | nil =>
    cases z with
    | fa m' k' g => obtain ⟨_, hs⟩ := cond_some hs; rw [← Option.some.inj hs]; trivial
    | _ => cases hs
   | cons j p =>
    cases p with
    | cons _ _ => cases hs
    | nil =>
     cases z with
     | v q =>
      cases q with
      | int k' q => obtain ⟨_, hs⟩ := cond_some hs; rw [← Option.some.inj hs]; trivial
      | _ => cases hs
     | _ => cases hs
  | _ => cases hs
theorem setC_arr {e : ET} {l : List e.den} {p : List Nat} {z : A} {c' : Con} (h : setC (.arr e l) p z = some c') : ∃ l', c' = .arr e l' ∧ l'.length = l.length := by
 cases p with
 | nil => cases h
 | cons i p =>
  simp only [setC] at h
  split at h
  ·split at h
   ·obtain rfl := Option.some.inj h
    exact ⟨_, rfl, by simp⟩
   ·cases h
  ·cases h
theorem blk_some {s : AS} {b : Nat} {x : Blk} (h : s.blk b = some x) : (lk s.hp b).isSome = true := by
 unfold AS.blk at h
 cases e : lk s.hp b with
 | none => rw [e] at h; cases h
 | some y => rfl
theorem aStore_ok (hT : TabOK W.P X.T) {t : Nat} {x y : Operand} (ho : o.op = .store t x y) (hdst : o.dst = none) (h : aStore X s t x y K = some r) : ∃ e, K e = some r ∧ OpOK W o s e := by
 unfold aStore at h
 split at h
 ·rename_i b p off z hx hz
  split at h
  ·rename_i c hb
   split at h
   ·rename_i c' hc'
    obtain ⟨hfit, h⟩ := cond_some h
    refine ⟨_, h, ⟨Nat.le_refl _, fun b' x' hm => by simp only [List.mem_singleton, Prod.mk.injEq] at hm; rw [hm.1]; exact .inr (blk_some hb)⟩, ?_⟩
    intro S H σ a w hs hf hsim next Q hnx
    obtain ⟨h1, h2⟩ := opA_val hs hsim hx
    obtain ⟨h3, h4⟩ := opA_val hs hsim hz
    have hbb := hs.blk hb
    have hoff := h2.2 _ hbb
    obtain ⟨ti, ht, hsz, _⟩ := fitT_spec hfit
    have hone := enc_one hsim.one z h4
    have hcells := val_cells hsim.one h4
    have hrunsz := run_size hT ht
    have hblk := hsim.blk b _ hbb
    have key : ∃ g cur ty u e0 v rest, ptrv (σ b) off = .pointer (some ⟨g, u.length, none⟩) ∧ ownG (σ b) = some g ∧ W.M g ∧ w.heap[g]? = some (.cells cur ty (0, 0)) ∧ cur.toList = u ++ e0 ++ v ++ rest ∧ e0.length = (enc σ z).length ∧
      (∀ w' : World, w'.heap.size = w.heap.size → (∀ k, k ≠ g → w'.heap[k]? = w.heap[k]?) → w'.heap[g]? = some (.cells (u ++ enc σ z ++ v ++ rest).toArray ty (0, 0)) → Shape H (setF H b (some (some ⟨true, c'⟩))) → (∀ k, Owned (setF H b (some (some ⟨true, c'⟩))) σ k → Owned H σ k) → RepB W (setF H b (some (some ⟨true, c'⟩))) σ w' (σ b) ⟨true, c'⟩) := by
     obtain ⟨xg, hgx⟩ := offC_get hoff
     cases c with
     | box a0 =>
      obtain ⟨hw0, g, ty, e1, hM, hg⟩ := hblk
      obtain ⟨u, v, h5, h6, h7⟩ := getA_enc σ p a0 xg off hgx hoff
      simp only [setC] at hc'
      split at hc'
      ·rename_i a' ha'
       obtain rfl := Option.some.inj hc'
       obtain ⟨h8, h9, _⟩ := h7 z a' ha'
       refine ⟨g, _, ty, u, enc σ xg, v, [], by rw [e1, h6]; simp [ptrv], by rw [e1]; rfl, hM, hg, by simp [h5], by rw [enc_len, enc_len, h9], fun w' hs' hk' hg' hsh hO => ?_⟩
       refine ⟨WfA_mono hsh _ (setA_wf p a0 z a' hw0 h4 ha'), g, ty, e1, hM, ?_⟩
       rw [hg', h8, List.append_nil]
      ·cases hc'
     | arr e l =>
      obtain ⟨xs, hr, ⟨hn, ao, e1⟩ | ⟨g, cap, cur, ty, e1, hM, hcap, hg, r1, r2, r3, r4⟩⟩ := hblk
      ·have : l = [] := List.eq_nil_of_length_eq_zero hn
       subst this
       cases p with
       | nil => cases hoff
       | cons i p => simp [offC] at hoff
      ·rcases getC_cells (σ := σ) hgx hoff (show ConC _ σ (.arr e l) xs from hr) with ⟨k, l', w', u, v, he, hI, rfl, hu⟩ | ⟨_, u, v, h5, h6, h7⟩
       ·exfalso
        subst he
        cases p with
        | nil => cases hgx
        | cons i p =>
         cases e with
         | one t' =>
          simp only [setC] at hc'
          split at hc'
          ·split at hc'
           ·rename_i y hy
            have hfl := (RT.ofA_eq (t := t') hy).2
            have := getA_ok p _ _ (toA_ok1 (t := t') _ hfl) hgx
            cases this
           ·cases hc'
          ·cases hc'
         | st ts =>
          have hel := RowsC.get hr i (by simp only [offC] at hoff; split at hoff <;> first | assumption | cases hoff)
          obtain ⟨_, _, _, _, _, hce, _⟩ := hel
          have hok := fieldsA_ok ts (l.getD i (densDflt ts)) hce.1
          have := getA_ok p (.rc (fieldsA ts (l.getD i (densDflt ts)))) _ hok hgx
          cases this
       ·obtain ⟨h8, h9⟩ := h7 z c' hc'
        obtain ⟨l', rfl, hl'⟩ := setC_arr hc'
        have hxl := RowsC.len hr
        refine ⟨g, cur, ty, u, enc σ xg, v, cur.toList.drop (l.length * e.sz), by rw [e1, h6]; simp [ptrv], by rw [e1]; simp [ownG]; omega, hM, hg, by rw [← h5, ← r4, List.take_append_drop], by rw [enc_len, enc_len, h9], fun w' hs' hk' hg' hsh hO => ?_⟩
        have hown : Owned H σ g := ⟨b, _, hbb, by rw [e1]; simp [ownG]; omega⟩
        have hlen' : (u ++ enc σ z ++ v).length = l.length * e.sz := by rw [← hxl, h5]; simp [enc_len, h9]
        refine ⟨u ++ enc σ z ++ v, RowsC.imp (fun k l v hv => Innr.keep (by rw [hs']; exact Nat.le_refl _) (fun k hk hn => ⟨hk' k (fun e => hn (e ▸ hown)), fun ho => hn (hO k ho)⟩) hv) h8, .inr ⟨g, cap, _, ty, by rw [hl']; exact e1, hM, hcap, hg', by rw [hl']; exact r1, r2, ?_, ?_⟩⟩
        ·rw [← r3, ← Array.length_toList]
         simp only [List.size_toArray, List.length_append, List.length_drop]
         have : (cur.toList).length = cap * e.sz := by rw [Array.length_toList, r3]
         have hle : l.length * e.sz ≤ cap * e.sz := Nat.mul_le_mul_right _ r1
         have := hlen'
         simp only [List.length_append] at this
         omega
        ·rw [hl']
         show List.take _ (u ++ enc σ z ++ v ++ _) = _
         rw [← hlen', List.take_left]
    obtain ⟨g, cur, ty, u, e0, v, rest, k1, k2, k3, k4, k5, k6, k7⟩ := key
    have hst := run_storeCells_at (P := W.P) g u.length ty (enc σ z) 0 cur w k4 (by rw [← Array.length_toList, k5, ← k6]; simp) hone
    rw [Nat.add_zero, k5, splice_eq k6.symm] at hst
    have hrun : (execOp a.eval o).run W.P w = .ok .skip (w.setRow g (u ++ enc σ z ++ v ++ rest).toArray) := by
     simp only [execOp, ho, Instr.storeAt, h1, val_ptr, k1, Instr.sureAddr, storeVar, h3, hcells, List.size_toArray, enc_len, hsz, Sem.run_bind, Sem.run_pure, Result.andThen_ok, hrunsz, ne_eq, not_true_eq_false, if_false, hst]
    have hsh : Shape H (setF H b (some (some ⟨true, c'⟩))) := fun b' hb' => by
     by_cases e : b' = b
     ·rw [e, setF_same]
      refine ⟨rfl, fun blk' he => ⟨_, hbb, fun q d hd => ?_⟩⟩
      rw [← Option.some.inj (Option.some.inj he)]
      rw [setC_off hc' q]; exact hd
     ·rw [setF_other _ _ e]
      exact ⟨hb', fun blk' e => ⟨blk', e, fun _ _ hd => hd⟩⟩
    have hOw : ∀ k, Owned (setF H b (some (some ⟨true, c'⟩))) σ k → Owned H σ k := by
     rintro k ⟨b', c0, e1, e2⟩
     by_cases e : b' = b
     ·rw [e] at e2
      exact ⟨b, c, hbb, e2⟩
     ·rw [setF_other _ _ e] at e1
      exact ⟨b', c0, e1, e2⟩
    refine wp_skip' hrun (hnx σ _ _ ?_)
    rw [hdst]
    show Sim W S (setF H b (some (some ⟨true, c'⟩))) σ a _
    refine hsim.upd rfl rfl rfl (by simp) hsim.one (fun _ _ => rfl) hsh (fun k => k = g) (fun k hk hne => setRow_other w g k _ hne) (fun k hk => by subst hk; exact ⟨⟨b, c, hbb, k2⟩, k3⟩) (fun k _ hk => hOw k hk) (fun b' blk' hb' => ?_) (fun b1 b2 c1 c2 e1 e2 hn k hk1 => ?_)
    ·by_cases e : b' = b
     ·right
      rw [e, setF_same] at hb'
      rw [e, ← Option.some.inj (Option.some.inj hb')]
      exact k7 _ (by simp) (fun k hk => setRow_other w g k _ hk) (setRow_same k4) hsh hOw
     ·left
      rw [setF_other _ _ e] at hb'
      obtain ⟨own, con⟩ := blk'
      refine ⟨hb', fun ho' g' hg' => ?_⟩
      subst ho'
      refine ⟨fun hgg => ?_, (hsim.own_lt hb' hg').1⟩
      subst hgg
      exact hsim.sep b' b con c hb' hbb e g' hg' k2
    ·have f1 : ∃ c1', H b1 = some (some ⟨true, c1'⟩) := by
      by_cases e : b1 = b
      ·exact ⟨c, by rw [e]; exact hbb⟩
      ·rw [setF_other _ _ e] at e1; exact ⟨c1, e1⟩
     have f2 : ∃ c2', H b2 = some (some ⟨true, c2'⟩) := by
      by_cases e : b2 = b
      ·exact ⟨c, by rw [e]; exact hbb⟩
      ·rw [setF_other _ _ e] at e2; exact ⟨c2, e2⟩
     obtain ⟨_, f1⟩ := f1
     obtain ⟨_, f2⟩ := f2
     exact hsim.sep b1 b2 _ _ f1 f2 hn k hk1
   ·cases h
  ·cases h
 ·cases h
theorem aFieldAddr_ok (hT : TabOK W.P X.T) (hd : ∀ i, o.dst = some i → i < W.N) {t : Nat} {x : Operand} {i : Nat} (ho : o.op = .fieldAddr t x i) (h : aFieldAddr X s o t x i K = some r) : ∃ e, K e = some r ∧ OpOK W o s e := by
 unfold aFieldAddr at h
 split at h
 ·rename_i fs z1 z2 b p off ht hx
  split at h
  ·rename_i d u own c hfi hb
   split at h
   ·rename_i ti as hu hg
    obtain ⟨hc, h⟩ := cond_some h
    simp only [Bool.and_eq_true, Nat.beq_eq] at hc
    obtain ⟨⟨hc1, hc2⟩, hc3⟩ := hc
    have hc1' : 0 < ti.sz := Nat.le_of_ble_eq_true hc1
    have hc2' : i < as.length := Nat.le_of_ble_eq_true hc2
    obtain ⟨dd, e1, u1⟩ := (hT t _ ht).und
    cases dd <;> simp only [UndOK] at u1
    rename_i fields
    refine ret_ok h hd fun S H σ a w hs hsim => ?_
    obtain ⟨h1, h2⟩ := opA_val hs hsim hx
    have hbb := hs.blk hb
    have hoff := h2.2 _ hbb
    obtain ⟨g, o', cs, h3, h4, h5⟩ := ptr_place hsim hbb hoff
    have hnew : offC c (p ++ [i]) = some (off + d) := by
     refine offC_snoc σ hg hoff ?_
     simp only [offA]
     rw [List.getElem?_eq_getElem hc2']
     simp [hc3, offA_nil]
    refine ⟨val σ (.ptr b (p ++ [i]) (off + d)), ?_, rfl, ⟨h2.1, fun blk hblk => ?_⟩⟩
    ·have hf : ∃ f, fields[i]? = some f ∧ f.offset = d ∧ f.type = u := by
      rw [← u1, List.getElem?_map] at hfi
      cases hfe : fields.toList[i]? with
      | none => rw [hfe] at hfi; cases hfi
      | some f =>
       rw [hfe] at hfi
       simp only [Option.map_some, Option.some.injEq, Prod.mk.injEq] at hfi
       exact ⟨f, by simpa using hfe, hfi.1, hfi.2⟩
     obtain ⟨f, f1, f2, f3⟩ := hf
     have hsz := run_size hT hu
     have hne : ¬ ti.sz = 0 := by omega
     simp only [execOp, ho, Instr.fieldAt, run_und e1, f1, h1, val_ptr, h3, Instr.sureAddr, fieldPlace, f3, hsz, hne, if_false, Sem.run_bind, Sem.run_pure, Result.andThen_ok, Addr.add_lit, f2, Nat.add_assoc]
    ·rw [hbb] at hblk
     rw [← Option.some.inj (Option.some.inj hblk)]
     exact hnew
   ·cases h
  ·cases h
 ·cases h
theorem dimA_off {a : A} {n m i : Nat} (h : dimA a = some (n, m)) (hi : i < n) : offA a [i] = some (i * m) ∧ ∃ x, getA a [i] = some x ∧ sz x = m := by
 cases a with
 | fa n' k f =>
  simp only [dimA, Option.some.injEq, Prod.mk.injEq] at h
  obtain ⟨rfl, rfl⟩ := h
  exact ⟨by simp [offA, hi], _, rfl, rfl⟩
 | fb n' f =>
  simp only [dimA, Option.some.injEq, Prod.mk.injEq] at h
  obtain ⟨rfl, rfl⟩ := h
  exact ⟨by simp [offA, hi], _, rfl, rfl⟩
 | fa2 n' m' k f =>
  simp only [dimA, Option.some.injEq, Prod.mk.injEq] at h
  obtain ⟨rfl, rfl⟩ := h
  exact ⟨by simp [offA, hi], _, rfl, rfl⟩
 | _ => cases h
theorem inB_spec {i : Int} {n : Nat} (h : inB i n = true) : 0 ≤ i ∧ i < (n : Int) := by
 simp only [inB, Bool.and_eq_true, decide_eq_true_eq] at h
 exact h
theorem aIndexAddr_ok (hT : TabOK W.P X.T) (hd : ∀ i, o.dst = some i → i < W.N) {t : Nat} {x y : Operand} (ho : o.op = .indexAddr t x y) (h : aIndexAddr X s o t x y K = some r) : ∃ e, K e = some r ∧ OpOK W o s e := by
 unfold aIndexAddr at h
 split at h
 ·rename_i n e z1 z2 b p off i ht hx hy
  split at h
  ·rename_i ti own c he hb
   split at h
   ·rename_i a0 hg
    split at h
    ·rename_i n' m hdim
     obtain ⟨hc, hh⟩ := cond_some h
     simp only [Bool.and_eq_true, Nat.beq_eq] at hc
     obtain ⟨⟨rfl, hm⟩, hi⟩ := hc
     obtain ⟨hi0, hi1⟩ := inB_spec hi
     obtain ⟨dd, e1, u1⟩ := (hT t _ ht).und
     cases dd <;> simp only [UndOK] at u1
     obtain ⟨rfl, rfl⟩ := u1
     refine ret_ok hh hd fun S H σ a w hs hsim => ?_
     obtain ⟨h1, h2⟩ := opA_val hs hsim hx
     obtain ⟨k, h3⟩ := opI_val hs hsim hy
     have hbb := hs.blk hb
     have hoff := h2.2 _ hbb
     obtain ⟨g, o', cs, h4, _, _⟩ := ptr_place hsim hbb hoff
     have hnew := offC_snoc σ hg hoff (dimA_off hdim (i := i.toNat) (by omega)).1
     refine ⟨val σ (.ptr b (p ++ [i.toNat]) (off + i.toNat * ti.sz)), ?_, rfl, ⟨h2.1, fun blk hblk => ?_⟩⟩
     ·have hsz := run_size hT he
      simp only [execOp, ho, Instr.indexAt, run_und e1, h1, h3, val_ptr, h4, asIntOf, Instr.sureAddr, hsz, hi0, hi1, and_self, if_true, Sem.run_bind, Sem.run_pure, Result.andThen_ok, Addr.add_lit, Nat.add_assoc]
     ·rw [hbb] at hblk
      rw [← Option.some.inj (Option.some.inj hblk), hm]
      exact hnew
    ·cases h
   ·cases h
  ·cases h
 ·rename_i e z1 z2 b i ht hx hy
  split at h
  ·rename_i ti own e' l he hb
   obtain ⟨hc, h⟩ := cond_some h
   simp only [Bool.and_eq_true, Nat.beq_eq] at hc
   obtain ⟨hm, hi⟩ := hc
   obtain ⟨hi0, hi1⟩ := inB_spec hi
   obtain ⟨dd, e1, u1⟩ := (hT t _ ht).und
   cases dd <;> simp only [UndOK] at u1
   subst u1
   refine ret_ok h hd fun S H σ a w hs hsim => ?_
   obtain ⟨h1, h2⟩ := opA_val hs hsim hx
   obtain ⟨k, h3⟩ := opI_val hs hsim hy
   have hbb := hs.blk hb
   have hoff : offC (.arr e' l) [i.toNat] = some (i.toNat * ti.sz) := by
    simp only [offC]
    rw [if_pos (by omega), offA_nil, hm]
    rfl
   obtain ⟨g, o', cs, h4, _, _⟩ := ptr_place hsim hbb hoff
   have hsl : ∃ n cap, σ b = .slice (some ⟨g, o', none⟩) n cap ∧ n = l.length := by
    have h5 := hsim.blk b _ hbb
    have h4' := h4 0
    have : ∃ ao n cap, σ b = .slice ao n cap ∧ n = l.length ∧ (ao = none ∨ ∃ g o, ao = some ⟨g, o, none⟩) := by
     cases own
     ·obtain ⟨xs, ao, cap, _, h5, _, h6⟩ := h5
      have hne : l ≠ [] := by rintro rfl; simp at hi1; omega
      obtain ⟨g2, o2, h7, _⟩ := h6 hne
      exact ⟨ao, _, cap, h5, rfl, .inr ⟨g2, o2, h7⟩⟩
     ·obtain ⟨xs, _, ⟨hn, ao, h5⟩ | ⟨g2, cap, cur, ty, h5, _⟩⟩ := h5
      ·omega
      ·exact ⟨_, _, cap, h5, rfl, .inr ⟨g2, 0, rfl⟩⟩
    obtain ⟨ao, n, cap, h6, h7, h8 | ⟨g2, o2, h8⟩⟩ := this
    ·rw [h6, h8] at h4'; cases h4'
    ·rw [h6, h8] at h4'
     simp only [ptrv, Nat.add_zero, Value.pointer.injEq, Option.some.injEq, Addr.mk.injEq, and_true] at h4'
     obtain ⟨rfl, rfl⟩ := h4'
     exact ⟨n, cap, by rw [h6, h8], h7⟩
   obtain ⟨n, cap, h6, rfl⟩ := hsl
   refine ⟨val σ (.ptr b [i.toNat] (i.toNat * ti.sz)), ?_, rfl, ⟨h2, fun blk hblk => ?_⟩⟩
   ·have hsz := run_size hT he
    simp only [execOp, ho, Instr.indexAt, run_und e1, h1, h3, val_sl, val_ptr, h4, h6, asIntOf, hsz, hi0, hi1, and_self, if_true, Sem.run_bind, Sem.run_pure, Result.andThen_ok, Addr.add_lit]
    rfl
   ·rw [hbb] at hblk
    rw [← Option.some.inj (Option.some.inj hblk)]
    exact hoff
  ·cases h
 ·cases h
end
end Go.RR
