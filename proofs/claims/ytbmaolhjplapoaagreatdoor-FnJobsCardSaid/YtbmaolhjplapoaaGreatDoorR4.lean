/- Two structs or arrays are equal: what the evaluator answers, the machine does. No condition. -/
import Derived.Test.YtbmaolhjplapoaaGreatDoorRh
import Derived.Laws.StructEq
set_option linter.unusedVariables false
set_option linter.unusedSimpArgs false
namespace Go.RR
open Go Go.RowKit
section
variable {R : Type} {W : SW} {X : Ctx} {s : AS} {o : Oper} {K : Eff → Option R} {r : R}
theorem run_rows {P : Program} {w : World} {t : TypeId} {n : Nat} {xs ys : Array Value} {f g : Nat → Int} {k : IntKind} {D e : Nat} (hs : (sizeOf e).run P w = .ok 1 w)
  (hx : ∀ i, i < n → (part e xs (i * 1)).run P w = .ok (.int k (f i)) w) (hy : ∀ i, i < n → (part e ys (i * 1)).run P w = .ok (.int k (g i)) w)
  (he : ∀ a b : Int, (Op.equalIn D e (.int k a) (.int k b)).run P w = .ok (a == b) w) (hu : P.underlying t = some (.array n e)) :
  (Op.equalIn (D + 1) t (.agg xs) (.agg ys)).run P w = .ok (faEq n f g) w := by
 simp only [Op.equalIn, Sem.run_bind, run_und hu, Result.andThen_ok, hs]
 rw [Std.Legacy.Range.forIn_eq_forIn_range']
 simp only [Std.Legacy.Range.size, Nat.sub_zero, Nat.add_sub_cancel, Nat.div_one]
 have key : ∀ (C : Option Bool × PUnit → Sem Bool), (∀ b, C (some b, ⟨⟩) = pure b) → C (none, ⟨⟩) = pure true → ∀ (m i : Nat), i + m = n → ((Sem.run P (forIn (List.range' i m 1) ((none, ⟨⟩) : Option Bool × PUnit) fun i __s => do
    let a ← part e xs (i * 1)
    let b ← part e ys (i * 1)
    let c ← Op.equalIn D e a b
    if (!c) = true then pure (ForInStep.done (some false, ⟨⟩)) else pure (ForInStep.yield (none, ⟨⟩))) w).andThen fun a w' => Sem.run P (C a) w') = .ok ((List.range' i m).all fun j => f j == g j) w := by
  intro C hC1 hC2 m
  induction m with
  | zero => intro i _; simp [hC2]
  | succ m ih =>
   intro i hi
   rw [List.range'_succ]
   simp only [List.forIn_cons, Sem.run_bind, hx i (by omega), hy i (by omega), he, Result.andThen_ok, List.all_cons]
   cases hfg : (f i == g i)
   ·simp [hC1]
   ·have := ih (i + 1) (by omega)
    simp only [Bool.not_true, Bool.false_eq_true, if_false, Sem.run_pure, Result.andThen_ok, Bool.true_and]
    exact this
 unfold faEq
 rw [List.range_eq_range']
 exact key _ (fun _ => rfl) rfl n 0 (by omega)
theorem und_agg {P : Program} {T : Tab} (hT : TabOK P T) {t : Nat} {i : TI} (h : lk T t = some i) (ha : i.k.agg = true) : P.stoodInHeld t = false ∧ P.eqGuardType P.depth t = false ∧ ∀ ds, P.underlying t = some (.struct ds) → (ds.toList.all fun f => f.name != "_") = true := by
 have := (hT t i h).ag
 unfold AgOK at this
 rw [ha] at this
 exact this
theorem part_get {T : Tab} {H : HF} {σ : Nat → Value} (hT : TabOK W.P T) {t : Nat} {as : List A} {x : A} {i d : Nat} (hw : WfL H as) (hone : ∀ b, (σ b).oneCell' = true) (hx : as[i]? = some x) (ho : szL (as.take i) = d) (hfit : fitT T t x = true) (w : World) :
  (part t (enc σ (.rc as)).toArray d).run W.P w = .ok (val σ x) w :=
 run_part hT (a := .rc as) (i := i) (show WfA H (.rc as) from hw) hone (by simp only [getA, hx]) (by simp only [offA, hx, offA_nil]; rw [Nat.add_zero, ho]) hfit w
theorem run_eqT {T : Tab} {H : HF} {σ : Nat → Value} (hT : TabOK W.P T) (hone : ∀ b, (σ b).oneCell' = true) (w : World) : ∀ (d : Nat) (D t : Nat) (x y : A) (p : Bool), d ≤ D → WfA H x → WfA H y → eqT T d t x y = some p →
  (Op.equalIn D t (val σ x) (val σ y)).run W.P w = .ok p w
 | 0, D, t, x, y, p, hd, hx, hy, h => by simp only [eqT] at h; cases h
 | d + 1, 0, t, x, y, p, hd, hx, hy, h => by omega
 | d + 1, D + 1, t, x, y, p, hd, hx, hy, h => by
  have ih := fun t x y p => run_eqT (H := H) hT hone w d D t x y p (by omega)
  unfold eqT at h
  split at h
  ·rename_i k0 i1 i2 ht
   split at h
   ·rename_i k a k' b
    obtain ⟨hk, h2⟩ := cond_some h
    have := keq_eq hk
    subst this
    obtain rfl := Option.some.inj h2
    obtain ⟨dd, e1, u1⟩ := (hT t _ ht).und
    cases dd <;> simp only [UndOK] at u1
    simp [val, isAg, enc, Op.equalIn, run_und e1]
   ·cases h
  ·rename_i i1 i2 ht
   split at h
   ·rename_i a b
    obtain rfl := Option.some.inj h
    obtain ⟨dd, e1, u1⟩ := (hT t _ ht).und
    cases dd <;> simp only [UndOK] at u1
    simp [val, isAg, enc, Op.equalIn, run_und e1]
   ·cases h
  ·rename_i i1 i2 ht
   split at h
   ·rename_i a b
    obtain rfl := Option.some.inj h
    obtain ⟨dd, e1, u1⟩ := (hT t _ ht).und
    cases dd <;> simp only [UndOK] at u1
    simp [val, isAg, enc, Op.equalIn, run_und e1, beq_toListBytes]
   ·cases h
  ·rename_i fs i1 i2 ht
   split at h
   ·rename_i as bs
    obtain ⟨dd, e1, u1⟩ := (hT t _ ht).und
    cases dd <;> simp only [UndOK] at u1
    rename_i fields
    obtain ⟨g1, _, g3⟩ := und_agg hT ht rfl
    have g3 := g3 _ e1
    have ef : W.P.fieldsOf t = fields := by unfold Program.fieldsOf; rw [e1]
    rw [val_ag (show isAg (.rc as) = true from rfl), val_ag (show isAg (.rc bs) = true from rfl), run_equalIn_struct w D t _ _ (by rw [ef]; exact e1) g1, ef]
    have key : ∀ (gs : List Field) (rs : List (Nat × Nat)) (i : Nat) (q : Bool), gs.map (fun f => (f.offset, f.type)) = rs → (gs.all fun f => f.name != "_") = true → eqF T (eqT T d) as bs rs i = some q →
      (Op.eqFields D (enc σ (.rc as)).toArray (enc σ (.rc bs)).toArray gs).run W.P w = .ok q w := by
     intro gs
     induction gs with
     | nil =>
      intro rs i q hr _ hq
      subst hr
      simp only [List.map_nil, eqF, Option.some.injEq] at hq
      subst hq
      simp [Op.eqFields]
     | cons g gs ihg =>
      intro rs i q hr hn hq
      subst hr
      rw [List.all_cons, Bool.and_eq_true] at hn
      simp only [List.map_cons, eqF] at hq
      split at hq
      ·rename_i xa yb hxa hyb
       obtain ⟨hc, hq⟩ := cond_some hq
       simp only [Bool.and_eq_true, Nat.beq_eq] at hc
       obtain ⟨⟨c1, c2⟩, c3, c4⟩ := hc
       split at hq
       ·rename_i p1 hp1
        split at hq
        ·rename_i p2 hp2
         obtain rfl := Option.some.inj hq
         have r1 := part_get (H := H) hT hx hone hxa c3 c1 w
         have r2 := part_get (H := H) hT hy hone hyb c4 c2 w
         have r3 := ih g.type xa yb p1 (WfL_mem hx xa (List.mem_of_getElem? hxa)) (WfL_mem hy yb (List.mem_of_getElem? hyb)) hp1
         have r4 := ihg _ (i + 1) p2 rfl hn.2 hp2
         have hnm : g.name ≠ "_" := by simpa using hn.1
         simp only [Op.eqFields, if_pos hnm, Sem.run_bind, r1, r2, r3, Result.andThen_ok]
         cases p1
         ·simp
         ·simpa using r4
        ·cases hq
       ·cases hq
      ·cases hq
    exact key fields.toList fs 0 p u1 g3 h
   ·cases h
  ·rename_i n e i1 i2 ht
   split at h
   ·rename_i n1 k f n2 k' g k0 s' b' he
    obtain ⟨hc, h2⟩ := cond_some h
    simp only [Bool.and_eq_true, Nat.beq_eq] at hc
    obtain ⟨⟨hn1, hn2⟩, hk, hs1, hd0⟩ := hc
    subst hn1; subst hn2
    have hd0 : 0 < d := Nat.le_of_ble_eq_true hd0
    have := keq_eq hk
    subst this
    obtain rfl := Option.some.inj h2
    obtain ⟨dd, e1, u1⟩ := (hT t _ ht).und
    cases dd <;> simp only [UndOK] at u1
    obtain ⟨q1, q2⟩ := u1
    subst q1; subst q2
    obtain ⟨de, e2, u2⟩ := (hT _ _ he).und
    cases de <;> simp only [UndOK] at u2
    have hsz := run_size hT he w
    rw [hs1] at hsz
    cases D with
    | zero => omega
    | succ D =>
     rw [val_ag (show isAg (.fa _ k f) = true from rfl), val_ag (show isAg (.fa _ k g) = true from rfl)]
     have hfit : ∀ z : Int, fitT T _ (.v (.int k z)) = true := fun z => by
      unfold fitT
      rw [he, hs1]; rfl
     have prt : ∀ (m : Nat) (f : Nat → Int) i, i < m → (part _ (enc σ (.fa m k f)).toArray (i * 1)).run W.P w = .ok (.int k (f i)) w := fun m f i hi =>
      run_part hT (H := H) (a := .fa m k f) (i := i) trivial hone (by simp only [getA]) (by simp only [offA, if_pos hi, Nat.mul_one]) (hfit _) w
     exact run_rows hsz (prt _ f) (prt _ g) (fun a b => by simp [Op.equalIn, run_und e2]) e1
   ·cases h
  ·cases h
theorem aEq_ok (hd : ∀ i, o.dst = some i → i < W.N) {op : BinOp} {t u : Nat} {x y : Operand} (ho : o.op = .binOp op t x y u) {a b : A} (hx : opA X.T s t x = some a) (hy : opA X.T s u y = some b)
  (hT : TabOK W.P X.T) (hag : isAg a = true ∧ isAg b = true) (h : aEq X.T t s o op a b K = some r) : ∃ e, K e = some r ∧ OpOK W o s e := by
 unfold aEq at h
 split at h
 ·rename_i p hp
  have hg : W.P.eqGuardType W.P.depth t = false := by
   unfold eqT at hp
   split at hp
   ·split at hp
    ·cases hag.1
    ·cases hp
   ·split at hp
    ·cases hag.1
    ·cases hp
   ·split at hp
    ·cases hag.1
    ·cases hp
   ·rename_i ht; exact (und_agg hT ht rfl).2.1
   ·rename_i ht; exact (und_agg hT ht rfl).2.1
   ·cases hp
  have main : ∀ {S : Nat → SV} {H : HF} {σ : Nat → Value} {a' : Act} {w : World}, Sub s S H → Sim W S H σ a' w → (Op.equal t (a'.eval x) (a'.eval y)).run W.P w = .ok p w ∧ a'.eval x = .agg (enc σ a).toArray ∧ a'.eval y = .agg (enc σ b).toArray := by
   intro S H σ a' w hs hsim
   obtain ⟨h1, h2⟩ := opA_val hs hsim hx
   obtain ⟨h3, h4⟩ := opA_val hs hsim hy
   rw [h1, h3]
   exact ⟨run_eqT (H := H) hT hsim.one w 8 Op.maxDepth t a b p (by decide) h2 h4 hp, val_ag hag.1, val_ag hag.2⟩
  have guard : ∀ (op : BinOp) (xs ys : Array Value) (w : World), (eqGuard op t x y (.agg xs) (.agg ys)).run W.P w = .ok () w := by
   intro op xs ys w
   unfold eqGuard
   cases op <;> simp [hg]
  split at h
  ·refine ret_ok h hd fun S H σ a' w hs hsim => ⟨.bool p, ?_, rfl, rfl⟩
   obtain ⟨h1, h2, h3⟩ := main hs hsim
   have hgd := guard .eql (enc σ a).toArray (enc σ b).toArray w
   rw [h2, h3] at h1
   have hb : ∀ xs ys : Array Value, binOp .eql t (.agg xs) (.agg ys) = (do pure (.bool ((← Op.equal t (.agg xs) (.agg ys))))) := fun _ _ => rfl
   simp only [execOp, ho, Sem.run_bind, h2, h3, hgd, Result.andThen_ok, hb, h1, Sem.run_pure]
  ·refine ret_ok h hd fun S H σ a' w hs hsim => ⟨.bool !p, ?_, rfl, rfl⟩
   obtain ⟨h1, h2, h3⟩ := main hs hsim
   have hgd := guard .neq (enc σ a).toArray (enc σ b).toArray w
   rw [h2, h3] at h1
   have hb : ∀ xs ys : Array Value, binOp .neq t (.agg xs) (.agg ys) = (do pure (.bool (!(← Op.equal t (.agg xs) (.agg ys))))) := fun _ _ => rfl
   simp only [execOp, ho, Sem.run_bind, h2, h3, hgd, Result.andThen_ok, hb, h1, Sem.run_pure]
  ·cases h
 ·cases h
end
end Go.RR
