/- The operations: what the evaluator answers of one operation, the machine does. No condition. -/
import Derived.Test.YtbmaolhjplapoaaGreatDoorRd
import Derived.WalkKit
set_option linter.unusedVariables false
set_option linter.unusedSimpArgs false
namespace Go.RR
open Go Go.RowKit
def UndOK : TypeDesc → TK → Prop
 | .int k', .int k => k' = k
 | .bool, .bool => True
 | .string, .str => True
 | .struct fs, .struct gs => fs.toList.map (fun f => (f.offset, f.type)) = gs
 | .array n e, .array n' e' => n = n' ∧ e = e'
 | .slice e, .slice e' => e = e'
 | .pointer e, .ptr e' => e = e'
 | .func .., .other | .interface _, .other | .map .., .other | .tuple _, .other => True
 | _, _ => False
def AgOK (P : Program) (t : Nat) (i : TI) : Prop := match i.k.agg with
 | true => P.stoodInHeld t = false ∧ P.eqGuardType P.depth t = false ∧ ∀ ds, P.underlying t = some (.struct ds) → (ds.toList.all fun f => f.name != "_") = true
 | false => True
structure TyOK (P : Program) (T : Tab) (t : Nat) (i : TI) : Prop where
 ag : AgOK P t i
 inf : ∃ f, P.info? t = some f ∧ f.size = i.sz ∧ f.bytes = i.by_ ∧ ∀ z, zeroA T 16 t = some z → f.zero = some (val (fun _ => undef) z) ∧ ∀ H, WfA H z
 und : ∃ d, P.underlying t = some d ∧ UndOK d i.k
def TabOK (P : Program) (T : Tab) : Prop := ∀ t i, lk T t = some i → TyOK P T t i
section
variable {P : Program} {T : Tab} {w : World}
theorem run_und {t : Nat} {d : TypeDesc} (h : P.underlying t = some d) (w : World) : (underlying t).run P w = .ok d w := by simp [underlying, h]
theorem run_size (hT : TabOK P T) {t : Nat} {i : TI} (h : lk T t = some i) (w : World) : (sizeOf t).run P w = .ok i.sz w := by
 obtain ⟨f, h1, h2, _⟩ := (hT t i h).inf
 simp [sizeOf, typeInfo, h1, h2]
theorem run_isAgg (hT : TabOK P T) {t : Nat} {i : TI} (h : lk T t = some i) (w : World) : (isAgg t).run P w = .ok i.k.agg w := by
 obtain ⟨d, h1, h2⟩ := (hT t i h).und
 unfold isAgg
 simp only [Sem.run_bind, run_und h1, Result.andThen_ok]
 cases d <;> cases hk : i.k <;> rw [hk] at h2 <;> first | rfl | (simp [UndOK] at h2)
theorem fitT_spec {t : Nat} {a : A} (h : fitT T t a = true) : ∃ i, lk T t = some i ∧ RR.sz a = i.sz ∧ isAg a = i.k.agg := by
 unfold fitT at h
 split at h
 ·rename_i ti hti
  simp only [Bool.and_eq_true, Nat.beq_eq, beq_iff_eq] at h
  exact ⟨ti, hti, h.1, h.2⟩
 ·cases h
end
def Sub (s : AS) (S : Nat → SV) (H : HF) : Prop := (∀ i x, lk s.sl i = some x → S i = x) ∧ ∀ b x, lk s.hp b = some x → H b = some x
theorem Sub.slot {s : AS} {S : Nat → SV} {H : HF} (h : Sub s S H) {i : Nat} {x : SV} (hx : s.slot i = x) (hn : x ≠ .none) : S i = x := by
 unfold AS.slot at hx
 cases e : lk s.sl i with
 | none => rw [e] at hx; exact absurd hx.symm hn
 | some y => rw [e] at hx; subst hx; exact h.1 i _ e
theorem Sub.blk {s : AS} {S : Nat → SV} {H : HF} (h : Sub s S H) {b : Nat} {x : Blk} (hx : s.blk b = some x) : H b = some (some x) := by
 unfold AS.blk at hx
 cases e : lk s.hp b with
 | none => rw [e] at hx; cases hx
 | some y => rw [e] at hx; subst hx; exact h.2 b _ e
section
variable {W : SW} {S : Nat → SV} {H : HF} {σ : Nat → Value} {a : Act} {w : World} {T : Tab} {s : AS}
theorem cA_val {t : Nat} {v : Value} {x : A} (h : cA T t v = some x) (σ : Nat → Value) (H : HF) : v = val σ x ∧ WfA H x := by
 unfold cA at h
 split at h
 ·obtain rfl := Option.some.inj h; exact ⟨rfl, rfl⟩
 ·obtain rfl := Option.some.inj h; exact ⟨rfl, rfl⟩
 ·obtain rfl := Option.some.inj h; exact ⟨rfl, rfl⟩
 ·split at h
  ·obtain rfl := Option.some.inj h; exact ⟨rfl, trivial⟩
  ·cases h
 ·obtain rfl := Option.some.inj h; exact ⟨rfl, rfl⟩
 ·obtain rfl := Option.some.inj h; exact ⟨rfl, rfl⟩
 ·cases h
theorem opS_slot (hs : Sub s S H) (h : Sim W S H σ a w) {t : Nat} {x : Operand} {sv : SV} (hx : opS T s t x = sv) (hn : sv ≠ .none) : SlotR H σ sv (a.eval x) := by
 cases x with
 | tmp i =>
  have := h.slot i
  rw [hs.slot hx hn] at this
  exact this
 | const v =>
  simp only [opS] at hx
  split at hx
  ·rename_i y hy
   subst hx
   exact cA_val hy σ H
  ·exact absurd hx.symm hn
 | func f =>
  simp only [opS] at hx
  subst hx
  exact ⟨rfl, trivial, rfl⟩
 | global g => exact absurd hx.symm hn
theorem opA_val (hs : Sub s S H) (h : Sim W S H σ a w) {t : Nat} {x : Operand} {y : A} (hx : opA T s t x = some y) : a.eval x = val σ y ∧ WfA H y := by
 unfold opA at hx
 split at hx
 ·rename_i z hz
  obtain rfl := Option.some.inj hx
  exact opS_slot hs h hz (by simp)
 ·cases hx
theorem opI_val (hs : Sub s S H) (h : Sim W S H σ a w) {x : Operand} {i : Int} (hx : opI T s x = some i) : ∃ k, a.eval x = .int k i := by
 unfold opI at hx
 split at hx
 ·rename_i k j hj
  obtain rfl := Option.some.inj hx
  exact ⟨k, (opA_val hs h hj).1⟩
 ·cases hx
theorem opsA_vals (hs : Sub s S H) (h : Sim W S H σ a w) : ∀ {xs : List Operand} {ts : List Nat} {ys : List A}, opsA T s ts xs = some ys → xs.map a.eval = ys.map (val σ) ∧ WfL H ys
 | [], ts, ys, hx => by
  simp only [opsA, Option.some.injEq] at hx
  subst hx
  exact ⟨rfl, trivial⟩
 | x :: xs, ts, ys, hx => by
  simp only [opsA] at hx
  split at hx
  ·rename_i z zs hz hzs
   obtain rfl := Option.some.inj hx
   obtain ⟨h1, h2⟩ := opA_val hs h hz
   obtain ⟨h3, h4⟩ := opsA_vals hs h hzs
   exact ⟨by simp only [List.map_cons, h1, h3], h2, h4⟩
  ·cases hx
end
def appS (S : Nat → SV) (d : Option (Nat × SV)) : Nat → SV := match d with
 | some (i, x) => setF S i x
 | none => S
def appH (H : HF) : List (Nat × Option Blk) → HF
 | [] => H
 | (b, x) :: r => setF (appH H r) b (some x)
def EffOK (s : AS) (e : Eff) : Prop := s.n ≤ e.n ∧ ∀ b x, (b, x) ∈ e.hp → (s.n ≤ b ∧ b < e.n) ∨ (lk s.hp b).isSome = true
def OpOK (W : SW) (o : Oper) (s : AS) (e : Eff) : Prop := EffOK s e ∧
 ∀ S H σ a w, Sub s S H → (∀ b, s.n ≤ b → b < e.n → H b = none) → Sim W S H σ a w → ∀ next Q, (∀ σ' a' w', Sim W (appS S e.dst) (appH H e.hp) σ' a' w' → next a' w') → o.wp W.P a w next Q
theorem wp_value {P : Program} {o : Oper} {a : Act} {w w' : World} {v : Value} {next : Act → World → Prop} {Q : Exit → Act → World → Prop} (h : (execOp a.eval o).run P w = .ok (.value v) w') (hn : next (a.put o.dst v) w') : o.wp P a w next Q := by
 unfold Oper.wp
 rw [h]
 exact hn
theorem wp_skip' {P : Program} {o : Oper} {a : Act} {w w' : World} {next : Act → World → Prop} {Q : Exit → Act → World → Prop} (h : (execOp a.eval o).run P w = .ok .skip w') (hn : next (a.put o.dst undef) w') : o.wp P a w next Q := by
 unfold Oper.wp
 rw [h]
 exact hn
theorem Sim.put {W : SW} {S : Nat → SV} {H : HF} {σ : Nat → Value} {a : Act} {w : World} (h : Sim W S H σ a w) {d : Option Nat} {sv : SV} {v : Value} (hd : ∀ i, d = some i → i < W.N) (hv : SlotR H σ sv v) :
  Sim W (appS S (dstE d sv)) H σ (a.put d v) w := by
 cases d with
 | none => exact h
 | some i =>
  have hi := hd i rfl
  refine ⟨h.bel, h.defers, by simp [Act.put, h.size], h.one, fun j => ?_, h.blk, h.sep, h.gh⟩
  show SlotR H σ (setF S i sv j) ((a.tmps.setIfInBounds i v).getD j undef)
  by_cases e : j = i
  ·subst e
   rw [setF_same]
   have : (a.tmps.setIfInBounds j v).getD j undef = v := by simp [h.size, hi]
   rw [this]
   exact hv
  ·rw [setF_other _ _ e]
   have : (a.tmps.setIfInBounds i v).getD j undef = a.tmps.getD j undef := by
    simp [Array.getElem?_setIfInBounds_ne (Ne.symm e)]
   rw [this]
   exact h.slot j
theorem ok_ret {W : SW} {o : Oper} {s : AS} {x : A} {n : Nat} (hn : s.n ≤ n) (hd : ∀ i, o.dst = some i → i < W.N)
  (h : ∀ S H σ a w, Sub s S H → Sim W S H σ a w → ∃ v, (execOp a.eval o).run W.P w = .ok (.value v) w ∧ v = val σ x ∧ WfA H x) :
  OpOK W o s ⟨dstE o.dst (.a x), [], n⟩ := by
 refine ⟨⟨hn, fun b x h => by cases h⟩, ?_⟩
 intro S H σ a w hs hf hsim next Q hn
 obtain ⟨v, h1, h2, h3⟩ := h S H σ a w hs hsim
 refine wp_value h1 (hn σ _ _ ?_)
 have := hsim.put (d := o.dst) (sv := .a x) (v := v) hd ⟨h2, h3⟩
 exact this
theorem ret_ok {R : Type} {W : SW} {o : Oper} {s : AS} {x : A} {K : Eff → Option R} {r : R} (hr : ret s o x K = some r) (hd : ∀ i, o.dst = some i → i < W.N)
  (h : ∀ S H σ a w, Sub s S H → Sim W S H σ a w → ∃ v, (execOp a.eval o).run W.P w = .ok (.value v) w ∧ v = val σ x ∧ WfA H x) : ∃ e, K e = some r ∧ OpOK W o s e := ⟨_, hr, ok_ret (Nat.le_refl _) hd h⟩
theorem retH_new {R : Type} {W : SW} {o : Oper} {s : AS} {x : A} {blk : Blk} {K : Eff → Option R} {r : R} (hr : retH o x [(s.n, some blk)] (s.n + 1) K = some r) (hd : ∀ i, o.dst = some i → i < W.N)
  (h : ∀ S H σ a w, Sub s S H → Sim W S H σ a w → H s.n = none → ∃ v u w', (execOp a.eval o).run W.P w = .ok (.value v) w' ∧ Sim W S (setF H s.n (some (some blk))) (setF σ s.n u) a w' ∧ v = val (setF σ s.n u) x ∧ WfA (setF H s.n (some (some blk))) x) :
  ∃ e, K e = some r ∧ OpOK W o s e := by
 refine ⟨_, hr, ⟨Nat.le_succ _, fun b x h => by simp only [List.mem_singleton, Prod.mk.injEq] at h; rw [h.1]; exact .inl ⟨Nat.le_refl _, Nat.lt_succ_self _⟩⟩, ?_⟩
 intro S H σ a w hs hf hsim next Q hn
 obtain ⟨v, u, w', h1, h2, h3, h4⟩ := h S H σ a w hs hsim (hf s.n (Nat.le_refl _) (Nat.lt_succ_self _))
 refine wp_value h1 (hn (setF σ s.n u) _ _ ?_)
 exact h2.put (d := o.dst) (sv := .a x) (v := v) hd ⟨h3, h4⟩
theorem run_equal_bool {P : Program} {t : Nat} (h : P.underlying t = some .bool) (a b : Bool) (w : World) : (Op.equal t (.bool a) (.bool b)).run P w = .ok (a == b) w := by
 have : ∀ d, (Op.equalIn (d + 1) t (.bool a) (.bool b)).run P w = .ok (a == b) w := by
  intro d
  simp only [Op.equalIn, Sem.run_bind, run_und h, Result.andThen_ok, Sem.run_pure]
 exact this 9999
section
variable {R : Type} {W : SW} {X : Ctx} {s : AS} {o : Oper} {K : Eff → Option R} {r : R}
theorem aBin_ok (hd : ∀ i, o.dst = some i → i < W.N) {op : BinOp} {t u : Nat} {x y : Operand} (ho : o.op = .binOp op t x y u) {a b : A} (hx : opA X.T s t x = some a) (hy : opA X.T s u y = some b)
  (hT : TabOK W.P X.T) (h : aBin X.T t s o op a b K = some r) : ∃ e, K e = some r ∧ OpOK W o s e := by
 have run : ∀ (a : Act) (w : World), (execOp a.eval o).run W.P w = ((do eqGuard op t x y (a.eval x) (a.eval y); binOp op t (a.eval x) (a.eval y)).run W.P w).andThen fun v w' => .ok (.value v) w' := by
  intro a w
  simp only [execOp, ho, Sem.run_bind, Sem.run_pure]
 have fin : ∀ {z : A}, ret s o z K = some r → (∀ (σ : Nat → Value) (H : HF) (w : World), (do eqGuard op t x y (val σ a) (val σ b); binOp op t (val σ a) (val σ b)).run W.P w = .ok (val σ z) w ∧ WfA H z) → ∃ e, K e = some r ∧ OpOK W o s e := by
  intro z hz hrun
  refine ret_ok hz hd fun S H σ a' w hs hsim => ⟨val σ z, ?_, rfl, (hrun σ H w).2⟩
  rw [run, (opA_val hs hsim hx).1, (opA_val hs hsim hy).1, (hrun σ H w).1]
  rfl
 unfold aBin at h
 split at h
 ·rename_i k a k' b
  split at h
  ·obtain ⟨hb, h⟩ := cond_none h
   refine fin h fun σ H w => ⟨?_, rfl⟩
   simp only [decide_eq_false_iff_not] at hb
   simp [val, isAg, enc, eqGuard, binOp, Op.shift, hb, bShl]
  ·obtain ⟨hb, h⟩ := cond_none h
   refine fin h fun σ H w => ⟨?_, rfl⟩
   simp only [decide_eq_false_iff_not] at hb
   simp [val, isAg, enc, eqGuard, binOp, Op.shift, hb, bShr]
  ·obtain ⟨hk, h2⟩ := cond_some h
   have := keq_eq hk
   subst this
   split at h2
   ·exact fin h2 fun σ H w => ⟨by simp [val, isAg, enc, eqGuard, binOp, Op.intArith], rfl⟩
   ·exact fin h2 fun σ H w => ⟨by simp [val, isAg, enc, eqGuard, binOp, Op.intArith], rfl⟩
   ·exact fin h2 fun σ H w => ⟨by simp [val, isAg, enc, eqGuard, binOp, Op.intArith], rfl⟩
   ·obtain ⟨hb, h3⟩ := cond_none h2
    simp only [decide_eq_false_iff_not] at hb
    exact fin h3 fun σ H w => ⟨by simp [val, isAg, enc, eqGuard, binOp, Op.intDiv, hb], rfl⟩
   ·obtain ⟨hb, h3⟩ := cond_none h2
    simp only [decide_eq_false_iff_not] at hb
    exact fin h3 fun σ H w => ⟨by simp [val, isAg, enc, eqGuard, binOp, Op.intDiv, hb], rfl⟩
   ·exact fin h2 fun σ H w => ⟨by simp [val, isAg, enc, eqGuard, binOp, Op.intBits, bAnd], rfl⟩
   ·exact fin h2 fun σ H w => ⟨by simp [val, isAg, enc, eqGuard, binOp, Op.intBits, bOr], rfl⟩
   ·exact fin h2 fun σ H w => ⟨by simp [val, isAg, enc, eqGuard, binOp, Op.intBits, bXor], rfl⟩
   ·exact fin h2 fun σ H w => ⟨by simp [val, isAg, enc, eqGuard, binOp, Op.intBits, bAndNot], rfl⟩
   ·exact fin h2 fun σ H w => ⟨by simp [val, isAg, enc, eqGuard, binOp, Op.intCmp], rfl⟩
   ·exact fin h2 fun σ H w => ⟨by simp [val, isAg, enc, eqGuard, binOp, Op.intCmp], rfl⟩
   ·exact fin h2 fun σ H w => ⟨by simp [val, isAg, enc, eqGuard, binOp, Op.intCmp], rfl⟩
   ·exact fin h2 fun σ H w => ⟨by simp [val, isAg, enc, eqGuard, binOp, Op.intCmp], rfl⟩
   ·exact fin h2 fun σ H w => ⟨by simp [val, isAg, enc, eqGuard, binOp, Op.intCmp], rfl⟩
   ·exact fin h2 fun σ H w => ⟨by simp [val, isAg, enc, eqGuard, binOp, Op.intCmp], rfl⟩
   ·cases h2
 ·rename_i a b
  split at h
  ·rename_i i1 i2 hl
   obtain ⟨d, h1, h2⟩ := (hT t _ hl).und
   refine fin h fun σ H w => ⟨?_, rfl⟩
   cases d <;> simp only [UndOK] at h2
   have hq := run_equal_bool h1 a b w
   simp [val, isAg, enc, eqGuard, binOp, hq]
  ·rename_i i1 i2 hl
   obtain ⟨d, h1, h2⟩ := (hT t _ hl).und
   refine fin h fun σ H w => ⟨?_, rfl⟩
   cases d <;> simp only [UndOK] at h2
   have hq := run_equal_bool h1 a b w
   simp [val, isAg, enc, eqGuard, binOp, hq]
  ·cases h
 ·rename_i a b
  split at h
  ·exact fin h fun σ H w => ⟨by simp [val, isAg, enc, eqGuard, binOp, Op.stringOp], rfl⟩
  ·exact fin h fun σ H w => ⟨by simp [val, isAg, enc, eqGuard, binOp, Op.stringOp], rfl⟩
  ·obtain ⟨hf, h⟩ := cond_some h
   have hf' : a.size + b.size ≤ 140737488355328 := Nat.le_of_ble_eq_true hf
   refine fin h fun σ H w => ⟨?_, rfl⟩
   have hmax : ¬ (((a.size + b.size : Nat) : Int) > IntKind.i64.max) := by
    have : IntKind.i64.max = 9223372036854775807 := by decide
    omega
   have hs : Op.stringOp .add a b = pure (.string (a ++ b)) := by
    unfold Op.stringOp
    simp only []
    rw [if_neg hmax]
   simp [val, isAg, enc, eqGuard, binOp, hs]
  ·cases h
 ·rename_i e1 e2
  split at h
  ·rename_i i1 i2 i3 hl
   obtain ⟨d, h1, h2⟩ := (hT t _ hl).und
   cases d <;> simp only [UndOK] at h2
   have eq : ∀ (w : World), (Op.equal t (.slice none 0 0) (.slice none 0 0)).run W.P w = .ok true w := by
    intro w
    have : ∀ d, (Op.equalIn (d + 1) t (.slice none 0 0) (.slice none 0 0)).run W.P w = .ok true w := by
     intro d
     simp only [Op.equalIn, Sem.run_bind, run_und h1, Result.andThen_ok, Sem.run_pure]
     rfl
    exact this 9999
   split at h
   ·refine fin h fun σ H w => ⟨?_, rfl⟩
    show (do eqGuard .eql t x y (.slice none 0 0) (.slice none 0 0); binOp .eql t (.slice none 0 0) (.slice none 0 0)).run W.P w = _
    simp [eqGuard, binOp, eq, val, isAg, enc]
   ·refine fin h fun σ H w => ⟨?_, rfl⟩
    show (do eqGuard .neq t x y (.slice none 0 0) (.slice none 0 0); binOp .neq t (.slice none 0 0) (.slice none 0 0)).run W.P w = _
    simp [eqGuard, binOp, eq, val, isAg, enc]
   ·cases h
  ·cases h
 ·rename_i b e'
  split at h
  ·rename_i own e2 l i1 i2 i3 hb hl
   obtain ⟨d, h1, h2⟩ := (hT t _ hl).und
   cases d <;> simp only [UndOK] at h2
   have nn : ∀ {S H σ a' w}, Sub s S H → Sim W S H σ a' w → 0 < l.length → ∃ ad n c, σ b = .slice (some ad) n c := by
    intro S H σ a' w hs hsim hpos
    have hr := hsim.blk b _ (hs.blk hb)
    cases own
    ·obtain ⟨xs, ao, cap, _, h5, _, h6⟩ := hr
     obtain ⟨g, o', h7, _⟩ := h6 (List.length_pos_iff.1 hpos)
     exact ⟨_, _, _, by rw [h5, h7]⟩
    ·obtain ⟨xs, _, ⟨hn, _⟩ | ⟨g, cap, cur, ty, h5, _⟩⟩ := hr
     ·omega
     ·exact ⟨_, _, _, h5⟩
   have eq : ∀ (ad : Addr) (n c : Nat) (w : World), (Op.equal t (.slice (some ad) n c) (.slice none 0 0)).run W.P w = .ok false w := by
    intro ad n c w
    have : ∀ d, (Op.equalIn (d + 1) t (.slice (some ad) n c) (.slice none 0 0)).run W.P w = .ok false w := by
     intro d
     simp only [Op.equalIn, Sem.run_bind, run_und h1, Result.andThen_ok, Sem.run_pure]
    exact this 9999
   split at h
   ·obtain ⟨hpos, h⟩ := cond_some h
    refine ret_ok h hd fun S H σ a' w hs hsim => ⟨.bool false, ?_, rfl, rfl⟩
    obtain ⟨ad, n, c, hv⟩ := nn hs hsim (Nat.le_of_ble_eq_true hpos)
    rw [run, (opA_val hs hsim hx).1, (opA_val hs hsim hy).1]
    have e1 : val σ (.sl b) = .slice (some ad) n c := hv
    have e2 : val σ (.nil e') = .slice none 0 0 := rfl
    rw [e1, e2]
    simp [eqGuard, binOp, eq]
   ·obtain ⟨hpos, h⟩ := cond_some h
    refine ret_ok h hd fun S H σ a' w hs hsim => ⟨.bool true, ?_, rfl, rfl⟩
    obtain ⟨ad, n, c, hv⟩ := nn hs hsim (Nat.le_of_ble_eq_true hpos)
    rw [run, (opA_val hs hsim hx).1, (opA_val hs hsim hy).1]
    have e1 : val σ (.sl b) = .slice (some ad) n c := hv
    have e2 : val σ (.nil e') = .slice none 0 0 := rfl
    rw [e1, e2]
    simp [eqGuard, binOp, eq]
   ·cases h
  ·cases h
 ·cases h
end
end Go.RR
