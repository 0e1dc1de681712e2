/- The operations, further: those that read, that lead to places, that make values. No condition. -/
import Derived.Test.YtbmaolhjplapoaaGreatDoorRe
import Derived.Laws.BytesArg
set_option linter.unusedVariables false
set_option linter.unusedSimpArgs false
namespace Go.RR
open Go Go.RowKit
section
variable {R : Type} {W : SW} {X : Ctx} {s : AS} {o : Oper} {K : Eff → Option R} {r : R}
theorem val_ptr (σ : Nat → Value) (b : Nat) (p : List Nat) (off : Nat) : val σ (.ptr b p off) = ptrv (σ b) off := rfl
theorem val_sl (σ : Nat → Value) (b : Nat) : val σ (.sl b) = σ b := rfl
theorem ptr_place {S : Nat → SV} {H : HF} {σ : Nat → Value} {a : Act} {w : World} (hsim : Sim W S H σ a w) {b : Nat} {blk : Blk} (hb : H b = some (some blk)) {p : List Nat} {off : Nat} (hp : offC blk.con p = some off) :
  ∃ g o cs, (∀ d, ptrv (σ b) d = .pointer (some ⟨g, o + d, none⟩)) ∧ ConC (Innr w (Owned H σ) 0) σ blk.con cs ∧ Lies w g o cs := by
 have h := hsim.blk b _ hb
 obtain ⟨own, c⟩ := blk
 cases own <;> cases c
 ·obtain ⟨hw, g, o, e, hg, hO, hl⟩ := h
  exact ⟨g, o, _, fun d => by rw [e]; rfl, rfl, hl⟩
 ·rename_i e l
  obtain ⟨xs, ao, cap, hr, e1, hc, hl⟩ := h
  have hne : l ≠ [] := by
   rintro rfl
   cases p with
   | nil => cases hp
   | cons i p => simp [offC] at hp
  obtain ⟨g, o, e2, hg, hO, hl⟩ := hl hne
  exact ⟨g, o, xs, fun d => by rw [e1, e2]; rfl, hr, hl⟩
 ·obtain ⟨hw, g, ty, e, hM, hg⟩ := h
  exact ⟨g, 0, _, fun d => by rw [e]; rfl, rfl, Lies.of_heap (n := _) hg (List.take_length)⟩
 ·rename_i e l
  obtain ⟨xs, hr, ⟨hn, ao, e1⟩ | ⟨g, cap, cur, ty, e1, hM, hc, hg, r1, r2, r3, r4⟩⟩ := h
  ·have : l = [] := List.eq_nil_of_length_eq_zero hn
   subst this
   cases p with
   | nil => cases hp
   | cons i p => simp [offC] at hp
  ·exact ⟨g, 0, xs, fun d => by rw [e1]; rfl, hr.imp fun k l v ⟨ao, cap, h1, h2, h3⟩ => ⟨ao, cap, h1, h2, fun hl => by
    obtain ⟨g, o, e, _, h4⟩ := h3 hl
    exact ⟨g, o, e, Nat.zero_le _, h4⟩⟩, Lies.of_heap hg r4⟩
theorem aPick_ok (hd : ∀ i, o.dst = some i → i < W.N) {c x y : Operand} (ho : o.op = .pick c x y) (h : aPick X s o c x y K = some r) : ∃ e, K e = some r ∧ OpOK W o s e := by
 unfold aPick at h
 split at h
 ·rename_i hc
  split at h
  ·rename_i z hz
   refine ret_ok h hd fun S H σ a w hs hsim => ⟨val σ z, ?_, rfl, (opA_val hs hsim hz).2⟩
   have h1 := (opA_val hs hsim hc).1
   have h2 := (opA_val hs hsim hz).1
   simp only [execOp, ho, h1, h2, val, isAg, enc, List.headD, asBool, Sem.run_bind, Sem.run_pure, Result.andThen_ok, if_true]
  ·cases h
 ·rename_i hc
  split at h
  ·rename_i z hz
   refine ret_ok h hd fun S H σ a w hs hsim => ⟨val σ z, ?_, rfl, (opA_val hs hsim hz).2⟩
   have h1 := (opA_val hs hsim hc).1
   have h2 := (opA_val hs hsim hz).1
   simp only [execOp, ho, h1, h2, val, isAg, enc, List.headD, asBool, Sem.run_bind, Sem.run_pure, Result.andThen_ok, Bool.false_eq_true, if_false]
  ·cases h
 ·cases h
theorem aMove_ok (hd : ∀ i, o.dst = some i → i < W.N) {x : Operand} (ho : o.op = .move x ∨ o.op = .assign x) {sv : SV} (hx : opS X.T s o.type x = sv) (hn : sv ≠ .none)
  (h : K ⟨dstE o.dst sv, [], s.n⟩ = some r) : ∃ e, K e = some r ∧ OpOK W o s e := by
 refine ⟨_, h, ⟨Nat.le_refl _, fun b x h => by cases h⟩, ?_⟩
 intro S H σ a w hs hf hsim next Q hnx
 have h1 := opS_slot hs hsim hx hn
 refine wp_value (v := a.eval x) (w' := w) (by rcases ho with ho | ho <;> simp only [execOp, ho, Sem.run_pure]) (hnx σ _ _ ?_)
 exact hsim.put hd h1
theorem rows_ints {I : Inn} {k : IntKind} : ∀ {l : List Int} {xs : List Value}, RowsC I (.one (.i k)) l xs → xs = l.map (Value.int k)
 | [], xs, h => h
 | x :: l, xs, h => by
  simp only [RowsC] at h
  obtain ⟨c1, c2, rfl, h1, h2⟩ := h
  have h1 : c1 = [.int k x] := h1
  rw [h1, rows_ints h2]; rfl
theorem lies_at {w : World} {g o : Nat} {l : List Int} (h : Lies w g o (l.map (Value.int .u8))) : ∀ i, i < l.length → w.cell? ⟨g, o + i, none⟩ = some (.int .u8 (l.getD i 0)) := fun i hi => by
 refine h i _ ?_
 rw [List.getElem?_map, List.getD_eq_getElem?_getD, List.getElem?_eq_getElem hi]; rfl
theorem conv_bytes {H : HF} {σ : Nat → Value} {w : World} {own : Bool} {t u e : Nat} {l : List Int} {v : Value} (hs : W.P.underlying t = some (.slice e)) (he : W.P.underlying e = some (.int .u8)) (hd : W.P.underlying u = some .string)
  (h : RepB W H σ w v ⟨own, .arr (.one (.i .u8)) l⟩) : (convert t u v).run W.P w = .ok (.string (strB l)) w := by
 have zero : ∀ ao cap, (convert t u (.slice ao 0 cap)).run W.P w = .ok (.string (strB [])) w := by
  intro ao cap
  cases ao with
  | none => exact run_convert_bytes_nil w t e hs he 0 cap u hd
  | some a =>
   rw [run_convert_bytes_string w t u e _ 0 cap hs he hd, run_bytesToString w a 0 cap [] (by simp [loadCells, loadCellsFrom, Sem.run_pure])]
   rfl
 cases own
 ·obtain ⟨xs, ao, cap, h1, rfl, _, h2⟩ := h
  have h1 := rows_ints h1
  subst h1
  cases hl : l with
  | nil => exact zero ao cap
  | cons x r =>
   obtain ⟨g, o, rfl, _, _, h3⟩ := h2 (by rw [hl]; exact fun q => nomatch q)
   rw [← hl]
   exact run_convert_bytes_arg w t e hs he g o l.length cap l rfl (lies_at h3) u hd
 ·obtain ⟨xs, h1, h2⟩ := h
  have h1 := rows_ints h1
  subst h1
  rcases h2 with ⟨hn, ao, rfl⟩ | ⟨g, cap, cur, ty, rfl, _, _, h3, _, _, _, h4⟩
  ·have : l = [] := List.length_eq_zero_iff.1 hn
   rw [this]; exact zero ao 0
  ·exact run_convert_bytes_arg w t e hs he g 0 l.length cap l rfl (lies_at (Lies.of_heap h3 h4)) u hd
theorem aConv_ok (hT : TabOK W.P X.T) (hd : ∀ i, o.dst = some i → i < W.N) {t u : Nat} {x : Operand} (ho : o.op = .convert t u x) (h : aConv X s o t u x K = some r) : ∃ e, K e = some r ∧ OpOK W o s e := by
 unfold aConv at h
 split at h
 ·rename_i k1 z1 b1 k2 z2 b2 k3 n h1 h2 h3
  obtain ⟨d1, e1, u1⟩ := (hT t _ h1).und
  obtain ⟨d2, e2, u2⟩ := (hT u _ h2).und
  cases d1 <;> simp only [UndOK] at u1
  cases d2 <;> simp only [UndOK] at u2
  subst u1; subst u2
  refine ret_ok h hd fun S H σ a w hs hsim => ⟨_, ?_, rfl, rfl⟩
  have h4 := (opA_val hs hsim h3).1
  simp [execOp, ho, h4, val, isAg, enc, convert, run_und e1, run_und e2, Conv.intToInt]
 ·rename_i e z1 b1 z2 b2 b h1 h2 h3
  obtain ⟨d1, e1, u1⟩ := (hT t _ h1).und
  obtain ⟨d2, e2, u2⟩ := (hT u _ h2).und
  cases d1 <;> simp only [UndOK] at u1
  cases d2 <;> simp only [UndOK] at u2
  subst u1
  split at h
  ·rename_i z3 b3 own l h5 hb
   obtain ⟨d3, e3, u3⟩ := (hT _ _ h5).und
   cases d3 <;> simp only [UndOK] at u3
   subst u3
   refine ret_ok h hd fun S H σ a w hs hsim => ⟨_, ?_, rfl, rfl⟩
   have h4 := (opA_val hs hsim h3).1
   have h6 := hsim.blk b _ (hs.blk hb)
   have run : (execOp a.eval o).run W.P w = ((convert t u (a.eval x)).run W.P w).andThen fun v w' => .ok (.value v) w' := by
    simp [execOp, ho]
   rw [run, h4, val_sl, conv_bytes e1 e3 e2 h6]
   rfl
  ·cases h
 ·cases h
theorem aNot_ok (hd : ∀ i, o.dst = some i → i < W.N) {t : Nat} {x : Operand} (ho : o.op = .unOp .not t x) {b : Bool} (hx : opA X.T s 0 x = some (.v (.bool b))) (h : ret s o (.v (.bool !b)) K = some r) : ∃ e, K e = some r ∧ OpOK W o s e := by
 refine ret_ok h hd fun S H σ a w hs hsim => ⟨_, ?_, rfl, rfl⟩
 have h4 := (opA_val hs hsim hx).1
 simp [execOp, ho, h4, val, isAg, enc, Op.unary]
theorem aNeg_ok (hd : ∀ i, o.dst = some i → i < W.N) {t : Nat} {x : Operand} (ho : o.op = .unOp .neg t x) {k : IntKind} {b : Int} (hx : opA X.T s t x = some (.v (.int k b))) (h : ret s o (.v (.int k (k.wrap (0 - b)))) K = some r) : ∃ e, K e = some r ∧ OpOK W o s e := by
 refine ret_ok h hd fun S H σ a w hs hsim => ⟨_, ?_, rfl, rfl⟩
 have h4 := (opA_val hs hsim hx).1
 simp [execOp, ho, h4, val, isAg, enc, Op.unary, Op.intArith]
theorem aNil_ok (hd : ∀ i, o.dst = some i → i < W.N) {x : Operand} (ho : o.op = .nilCheck x) {b : Nat} {p : List Nat} {off : Nat} (hx : opA X.T s 0 x = some (.ptr b p off)) {blk : Blk} (hb : s.blk b = some blk) (h : ret s o (.ptr b p off) K = some r) : ∃ e, K e = some r ∧ OpOK W o s e := by
 refine ret_ok h hd fun S H σ a w hs hsim => ⟨_, ?_, rfl, (opA_val hs hsim hx).2⟩
 have h4 := (opA_val hs hsim hx).1
 obtain ⟨g, o', cs, h5, _⟩ := ptr_place hsim (hs.blk hb) ((opA_val hs hsim hx).2.2 _ (hs.blk hb))
 rw [val_ptr, h5 off] at h4
 rw [val_ptr, h5 off]
 simp only [execOp, ho, h4, Sem.run_pure, Sem.run_bind]
theorem encL_vals {H : HF} (σ : Nat → Value) : ∀ xs : List A, (∀ x ∈ xs, isAg x = false) → encL σ xs = xs.map (val σ)
 | [], _ => rfl
 | x :: xs, h => by
  have h1 := h x (by simp)
  have hl : (enc σ x).length = 1 := by rw [enc_len]; cases x <;> first | rfl | (simp [isAg] at h1)
  simp only [encL, List.map_cons, encL_vals (H := H) σ xs (fun y hy => h y (by simp [hy]))]
  rw [show val σ x = (enc σ x).headD undef by unfold val; rw [h1]]
  match he : enc σ x with
  | [] => rw [he] at hl; cases hl
  | [u] => rfl
  | _ :: _ :: _ => rw [he] at hl; simp at hl
theorem aMakeFunc_ok (hd : ∀ i, o.dst = some i → i < W.N) {f : Nat} {fst cs : Array Operand} (ho : o.op = .makeFunc (.func f) fst cs) (hf : fst.toList = []) {xs : List A} (hx : opsA X.T s [] cs.toList = some xs)
  (h : cond (xs.all fun x => !isAg x) (ret s o (.clo f xs) K) none = some r) : ∃ e, K e = some r ∧ OpOK W o s e := by
 obtain ⟨h1, h⟩ := cond_some h
 refine ret_ok h hd fun S H σ a w hs hsim => ⟨_, ?_, rfl, (opsA_vals hs hsim hx).2, h1⟩
 have h2 := (opsA_vals hs hsim hx).1
 have h3 : encL σ xs = xs.map (val σ) := encL_vals (H := H) σ xs fun x hx => by
  have := List.all_eq_true.1 h1 x hx
  simpa using this
 have hf' : fst = #[] := by simpa using hf
 have h5 : cs.map a.eval = (xs.map (val σ)).toArray := by
  apply Array.toList_inj.1
  rw [← h2]
  exact Array.toList_map
 simp only [execOp, ho, hf', Instr.makeFunc, Sem.run_bind, Sem.run_pure, Result.andThen_ok, h5, val, isAg, enc, List.headD, h3, Array.map_empty]
theorem aExtract_ok (hd : ∀ i, o.dst = some i → i < W.N) {x : Operand} {i : Nat} (ho : o.op = .extract x i) (h : aExtract X s o x i K = some r) : ∃ e, K e = some r ∧ OpOK W o s e := by
 unfold aExtract at h
 split at h
 ·rename_i xs hx
  split at h
  ·rename_i z hz
   refine ret_ok h hd fun S H σ a w hs hsim => ⟨_, ?_, rfl, ?_⟩
   ·have h4 := (opS_slot hs hsim hx (by simp)).1
    simp [execOp, ho, h4, Instr.extract, hz]
   ·exact WfL_mem (opS_slot hs hsim hx (by simp)).2 z (List.mem_of_getElem? hz)
  ·cases h
 ·cases h
theorem aLen_ok (hT : TabOK W.P X.T) (hd : ∀ i, o.dst = some i → i < W.N) {t : Nat} {x : Operand} (ho : o.op = .call { callee := .builtin .len, args := #[x], argTypes := #[t] }) (h : aLen X s o t x K = some r) : ∃ e, K e = some r ∧ OpOK W o s e := by
 have run : ∀ (a : Act) (w : World), (execOp a.eval o).run W.P w = ((Builtin.len_ #[t] o.type #[a.eval x]).run W.P w).andThen fun v w' => .ok (.value v) w' := by
  intro a w
  simp [execOp, ho, Go.resolve, invoke, builtin]
 unfold aLen at h
 split at h
 ·rename_i z1 z2 z h1 h2
  obtain ⟨d1, e1, u1⟩ := (hT t _ h1).und
  cases d1 <;> simp only [UndOK] at u1
  refine ret_ok h hd fun S H σ a w hs hsim => ⟨_, ?_, rfl, rfl⟩
  have h4 := (opA_val hs hsim h2).1
  rw [run]
  simp [Builtin.len_, run_und e1, h4, val, isAg, enc, goInt]
 ·rename_i z1 z2 z3 z4 z5 h1 h2
  obtain ⟨d1, e1, u1⟩ := (hT t _ h1).und
  cases d1 <;> simp only [UndOK] at u1
  obtain ⟨rfl, rfl⟩ := u1
  refine ret_ok h hd fun S H σ a w hs hsim => ⟨_, ?_, rfl, rfl⟩
  rw [run]
  simp [Builtin.len_, run_und e1, val, isAg, enc, goInt]
 ·rename_i z1 z2 z3 b h1 h2
  obtain ⟨d1, e1, u1⟩ := (hT t _ h1).und
  cases d1 <;> simp only [UndOK] at u1
  split at h
  ·rename_i own e l hb
   refine ret_ok h hd fun S H σ a w hs hsim => ⟨_, ?_, rfl, rfl⟩
   have h4 := (opA_val hs hsim h2).1
   have h5 := hsim.blk b _ (hs.blk hb)
   have h6 : ∃ ao cap, σ b = .slice ao l.length cap := by
    cases own
    ·obtain ⟨xs, ao, cap, _, h5, _⟩ := h5
     exact ⟨ao, cap, h5⟩
    ·obtain ⟨xs, _, ⟨hn, ao, h5⟩ | ⟨g, cap, cur, ty, h5, _⟩⟩ := h5
     ·exact ⟨ao, 0, by rw [h5, hn]⟩
     ·exact ⟨_, cap, h5⟩
   obtain ⟨ao, cap, h6⟩ := h6
   rw [run, h4, val_sl, h6]
   simp [Builtin.len_, run_und e1, val, isAg, enc, goInt]
  ·cases h
 ·rename_i z1 z2 z3 b h1 h2
  obtain ⟨d1, e1, u1⟩ := (hT t _ h1).und
  cases d1 <;> simp only [UndOK] at u1
  refine ret_ok h hd fun S H σ a w hs hsim => ⟨_, ?_, rfl, rfl⟩
  have h4 := (opA_val hs hsim h2).1
  rw [run]
  simp [Builtin.len_, run_und e1, h4, val, isAg, enc, goInt]
 ·cases h
end
end Go.RR
