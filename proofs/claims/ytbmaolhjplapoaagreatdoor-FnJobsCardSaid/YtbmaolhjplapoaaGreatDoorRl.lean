/- The loops' answers, all rounds in one. No condition. -/
import Derived.Test.YtbmaolhjplapoaaGreatDoorRk
set_option linter.unusedVariables false
set_option linter.unusedSimpArgs false
namespace Go.RR
open Go Go.RowKit
section
variable {R : Type} {X : Ctx} {s : AS} {o : Oper} {K : Eff → Option R}
theorem cond_bind {α β : Type} (c : Bool) (x y : Option α) (K : α → Option β) : (cond c x y).bind K = cond c (x.bind K) (y.bind K) := by cases c <;> rfl
theorem aBin_bind {T : Tab} {t : Nat} {op : BinOp} {x y : A} : aBin T t s o op x y K = (aBin T t s o op x y some).bind K := by
 unfold aBin
 repeat' (first | rfl | rw [cond_bind] | (refine congrArg₂ (cond _) ?_ ?_) | split)
theorem aEq_bind {T : Tab} {t : Nat} {op : BinOp} {x y : A} : aEq T t s o op x y K = (aEq T t s o op x y some).bind K := by
 unfold aEq
 repeat' (first | rfl | split)
theorem aPick_bind {c a b : Operand} : aPick X s o c a b K = (aPick X s o c a b some).bind K := by
 unfold aPick
 repeat' (first | rfl | rw [cond_bind] | (refine congrArg₂ (cond _) ?_ ?_) | split)
theorem aLoad_bind {t : Nat} {x : Operand} : aLoad X s o t x K = (aLoad X s o t x some).bind K := by
 unfold aLoad
 repeat' (first | rfl | rw [cond_bind] | (refine congrArg₂ (cond _) ?_ ?_) | split)
theorem aStore_bind {t : Nat} {x y : Operand} : aStore X s t x y K = (aStore X s t x y some).bind K := by
 unfold aStore
 repeat' (first | rfl | rw [cond_bind] | (refine congrArg₂ (cond _) ?_ ?_) | split)
theorem aConv_bind {t u : Nat} {x : Operand} : aConv X s o t u x K = (aConv X s o t u x some).bind K := by
 unfold aConv
 repeat' (first | rfl | rw [cond_bind] | (refine congrArg₂ (cond _) ?_ ?_) | split)
theorem aFieldAddr_bind {t i : Nat} {x : Operand} : aFieldAddr X s o t x i K = (aFieldAddr X s o t x i some).bind K := by
 unfold aFieldAddr
 repeat' (first | rfl | rw [cond_bind] | (refine congrArg₂ (cond _) ?_ ?_) | split)
theorem aIndexAddr_bind {t : Nat} {x y : Operand} : aIndexAddr X s o t x y K = (aIndexAddr X s o t x y some).bind K := by
 unfold aIndexAddr
 repeat' (first | rfl | rw [cond_bind] | (refine congrArg₂ (cond _) ?_ ?_) | split)
theorem aIndex_bind {t : Nat} {x y : Operand} : aIndex X s o t x y K = (aIndex X s o t x y some).bind K := by
 unfold aIndex
 repeat' (first | rfl | rw [cond_bind] | (refine congrArg₂ (cond _) ?_ ?_) | split)
theorem aField_bind {t i : Nat} {x : Operand} : aField X s o t x i K = (aField X s o t x i some).bind K := by
 unfold aField
 repeat' (first | rfl | rw [cond_bind] | (refine congrArg₂ (cond _) ?_ ?_) | split)
theorem aBuild_bind {t : Nat} {ps : List (Nat × Operand)} : aBuild X s o t ps K = (aBuild X s o t ps some).bind K := by
 unfold aBuild
 repeat' (first | rfl | rw [cond_bind] | (refine congrArg₂ (cond _) ?_ ?_) | split)
theorem aBuildSlice_bind {t m : Nat} {ps : List (Nat × Operand)} : aBuildSlice X s o t m ps K = (aBuildSlice X s o t m ps some).bind K := by
 unfold aBuildSlice
 repeat' (first | rfl | rw [cond_bind] | (refine congrArg₂ (cond _) ?_ ?_) | split)
theorem aMakeSlice_bind {t : Nat} {x y : Operand} : aMakeSlice X s o t x y K = (aMakeSlice X s o t x y some).bind K := by
 unfold aMakeSlice
 repeat' (first | rfl | rw [cond_bind] | (refine congrArg₂ (cond _) ?_ ?_) | split)
theorem aSlice_bind {t : Nat} {x : Operand} {lo hi : Option Operand} : aSlice X s o t x lo hi K = (aSlice X s o t x lo hi some).bind K := by
 unfold aSlice
 repeat' (first | rfl | rw [cond_bind] | (refine congrArg₂ (cond _) ?_ ?_) | split)
theorem aExtract_bind {x : Operand} {i : Nat} : aExtract X s o x i K = (aExtract X s o x i some).bind K := by
 unfold aExtract
 repeat' (first | rfl | rw [cond_bind] | (refine congrArg₂ (cond _) ?_ ?_) | split)
theorem aLen_bind {t : Nat} {x : Operand} : aLen X s o t x K = (aLen X s o t x some).bind K := by
 unfold aLen
 repeat' (first | rfl | rw [cond_bind] | (refine congrArg₂ (cond _) ?_ ?_) | split)
theorem aMinMax_bind {mx : Bool} {ts : List Nat} {xs : List Operand} : aMinMax X s o mx ts xs K = (aMinMax X s o mx ts xs some).bind K := by
 unfold aMinMax
 repeat' (first | rfl | rw [cond_bind] | (refine congrArg₂ (cond _) ?_ ?_) | split)
theorem aAppend_bind {t u : Nat} {x y : Operand} : aAppend X s o t u x y K = (aAppend X s o t u x y some).bind K := by
 unfold aAppend
 repeat' (first | rfl | rw [cond_bind] | (refine congrArg₂ (cond _) ?_ ?_) | split)
theorem aCallN_bind {g : Nat} {as cs : List A} : aCallN X s o g as cs K = (aCallN X s o g as cs some).bind K := by
 unfold aCallN
 split
 ·dsimp only
  split <;> rfl
 ·rfl
theorem aCallU_bind {u : UCon} {as : List A} : aCallU s o u as K = (aCallU s o u as some).bind K := by
 unfold aCallU
 split
 ·split
  ·rw [cond_bind]
   refine congrArg (fun z => cond _ z none) ?_
   dsimp only
   split <;> rfl
  ·rfl
 ·rfl
theorem aCallH_bind {γ : HCon} {as : List A} : aCallH s o γ as K = (aCallH s o γ as some).bind K := by
 unfold aCallH
 dsimp only
 split
 ·unfold ansH putH
  split
  ·split
   ·rfl
   ·rw [cond_bind]; rfl
  ·split
   ·rfl
   ·rw [cond_bind]; rfl
   ·rw [cond_bind]; rfl
 ·rfl
theorem aCall_bind {f : Operand} {ts : List Nat} {xs : List Operand} : aCall X s o f ts xs K = (aCall X s o f ts xs some).bind K := by
 unfold aCall
 split
 ·split
  ·split
   ·exact aCallH_bind
   ·rfl
  ·split
   ·split
    ·exact aCallU_bind
    ·rfl
   ·exact aCallN_bind
 ·rfl
theorem aBE_bind {T : Tab} {t : Nat} {op : BinOp} {c : Bool} {x y : A} : (cond c (aEq T t s o op x y K) (aBin T t s o op x y K)) = (cond c (aEq T t s o op x y some) (aBin T t s o op x y some)).bind K := by
 cases c
 ·exact aBin_bind
 ·exact aEq_bind
theorem aop_bind : aop X s o K = (aop X s o some).bind K := by
 unfold aop
 split
 all_goals first
  | rfl
  | exact aPick_bind
  | exact aLoad_bind
  | exact aConv_bind
  | exact aFieldAddr_bind
  | exact aIndexAddr_bind
  | exact aIndex_bind
  | exact aField_bind
  | exact aBuild_bind
  | exact aBuildSlice_bind
  | exact aMakeSlice_bind
  | exact aSlice_bind
  | exact aExtract_bind
  | exact aMinMax_bind
  | exact aCall_bind
  | (split <;> first
    | rfl
    | exact aStore_bind
    | exact aBE_bind
    | exact aBin_bind
    | exact aLen_bind
    | exact aAppend_bind
    | (rw [cond_bind]; rfl)
    | (split <;> rfl))
end
def Tail {R : Type} (F : (Nat → AS → Option R) → Option R) : Prop :=
 ∀ lp r, F lp = some r → (∀ lp', F lp' = some r) ∨ ∃ id s, lp id s = some r ∧ ∀ lp', lp' id s = some r → F lp' = some r
section
variable {R : Type} {X : Ctx}
theorem Tail.const (x : Option R) : Tail fun _ => x := fun lp r h => .inl fun _ => h
theorem Tail.ask (id : Nat) (s : AS) : Tail (R := R) fun lp => lp id s := fun lp r h => .inr ⟨id, s, h, fun _ h => h⟩
theorem Tail.bind {m : Option Eff} {K : (Nat → AS → Option R) → Eff → Option R} (h : ∀ e, Tail fun lp => K lp e) : Tail fun lp => m.bind (K lp) := by
 cases m with
 | none => exact Tail.const none
 | some e => exact h e
theorem Tail.split {spl : Bool} {s : AS} {d : Option Nat} {K : (Nat → AS → Option R) → AS → Option R} (h : ∀ s, Tail fun lp => K lp s) : Tail fun lp => splitB spl s d (K lp) := by
 cases spl with
 | false => exact h s
 | true => cases d with
  | none => exact h s
  | some i =>
   have e : (fun lp => splitB true s (some i) (K lp)) = fun lp => match s.slot i with
    | .a (.v (.bool b)) => match b with
     | true => K lp (s.put (some i) (.a (.v (.bool true))))
     | false => K lp (s.put (some i) (.a (.v (.bool false))))
    | _ => K lp s := rfl
   rw [e]
   cases s.slot i with
   | a x => cases x with
    | v x => cases x with
     | bool b => cases b <;> exact h _
     | _ => exact h s
    | _ => exact h s
   | _ => exact h s
theorem aops_tail (ops : List Oper) {K : (Nat → AS → Option R) → AS → Option R} (h : ∀ s, Tail fun lp => K lp s) : ∀ (rest : List Oper) (j : Nat) (s : AS), Tail fun lp => aops X ops (K lp) rest j s
 | [], j, s => h s
 | o :: rest, j, s => by
  have e : (fun lp => aops X ops (K lp) (o :: rest) j s) = fun lp =>
   match (match o.guard with | none => some true | some (g, w) => wantS s (dstOf ops g) w) with
   | some true => (aop X s o some).bind fun e => splitB (isGuard ops j || isPickCond ops o.dst) (s.apply e) o.dst (aops X ops (K lp) rest (j + 1))
   | some false => aops X ops (K lp) rest (j + 1) (s.put o.dst .un)
   | none => none := by
   funext lp
   simp only [aops]
   rw [aop_bind]
   rfl
  rw [e]
  cases (match o.guard with | none => some true | some (g, w) => wantS s (dstOf ops g) w) with
  | none => exact Tail.const none
  | some b => cases b with
   | false => exact aops_tail ops h rest (j + 1) _
   | true => exact Tail.bind fun e => Tail.split fun s => aops_tail ops h rest (j + 1) s
theorem Tail.splitE {spl : Bool} {e : Eff} {K : (Nat → AS → Option R) → Eff → Option R} (h : ∀ e, Tail fun lp => K lp e) : Tail fun lp => splitE spl e (K lp) := by
 cases spl with
 | false => exact h e
 | true =>
  obtain ⟨dst, hp, n⟩ := e
  cases dst with
  | none => exact h _
  | some d =>
   obtain ⟨d, v⟩ := d
   cases v with
   | a x => cases x with
    | v x => cases x with
     | bool b => cases b <;> exact h _
     | _ => exact h _
    | _ => exact h _
   | _ => exact h _
theorem Tail.cond {c : Bool} {F : (Nat → AS → Option R) → Option R} (h : Tail F) : Tail fun lp => cond c (F lp) none := by
 cases c with
 | true => exact h
 | false => exact Tail.const none
theorem dops_tail (D : List (List Nat)) (ops : List Oper) (s : AS) {K : (Nat → AS → Option R) → AS → Option R} (h : ∀ s, Tail fun lp => K lp s) : ∀ (rest : List Oper) (j n : Nat) (E : List (Nat × Eff)), Tail fun lp => dops X D ops s (K lp) rest j n E
 | [], j, n, E => h _
 | o :: rest, j, n, E => by
  have e : (fun lp => dops X D ops s (K lp) (o :: rest) j n E) = fun lp => cond (prdOk D o j) (match gSt (viewD X.T D ops s E j n o) ops o with
   | some true => (aop X (viewD X.T D ops s E j n o) o some).bind fun e => RR.splitE (isGuard ops j || isPickCond ops o.dst) e fun e => cond (dstSame o n e && besideD X.T D ops s j n e E) (dops X D ops s (K lp) rest (j + 1) e.n ((j, e) :: E)) none
   | some false => cond (dstSame o n ⟨dstE o.dst .un, [], n⟩ && besideD X.T D ops s j n ⟨dstE o.dst .un, [], n⟩ E) (dops X D ops s (K lp) rest (j + 1) n ((j, ⟨dstE o.dst .un, [], n⟩) :: E)) none
   | none => none) none := by
   funext lp
   simp only [dops]
   rw [aop_bind]
   rfl
  rw [e]
  refine Tail.cond ?_
  cases gSt (viewD X.T D ops s E j n o) ops o with
  | none => exact Tail.const none
  | some b => cases b with
   | false => exact Tail.cond (dops_tail D ops s h rest _ _ _)
   | true => exact Tail.bind fun e => Tail.splitE fun e => Tail.cond (dops_tail D ops s h rest _ _ _)
theorem ev_tail : ∀ (c : Code) (K : (Nat → AS → Option R) → Kont R), (∀ e s, Tail fun lp => K lp e s) → ∀ s, Tail fun lp => ev X lp c (K lp) s
 | .skip, K, h, s | .label _, K, h, s => h .n s
 | .exit id, K, h, s => h (.x id) s
 | .ret, K, h, s => h .r s
 | .goto _, K, h, s | .refuse _, K, h, s | .scope _, K, h, s | .rangeFunc .., K, h, s => Tail.const none
 | .region id ops draw, K, h, s => by
  cases draw with
  | true => exact dops_tail _ ops.toList s (fun s => h .n s) ops.toList 0 s.n []
  | false => exact aops_tail ops.toList (fun s => h .n s) ops.toList 0 s
 | .seq a b, K, h, s => ev_tail a (fun lp => seqK X lp b (K lp)) (fun e s => by
   cases e with
   | n => exact ev_tail b K h s
   | x i => exact h (.x i) s
   | r => exact h .r s) s
 | .cond c a b, K, h, s => by
  have e : (fun lp => ev X lp (.cond c a b) (K lp) s) = fun lp => match opA X.T s 0 c with
   | some (.v (.bool t)) => match t with
    | true => ev X lp a (K lp) s
    | false => ev X lp b (K lp) s
   | _ => none := rfl
  rw [e]
  split
  ·rename_i t _
   cases t
   ·exact ev_tail b K h s
   ·exact ev_tail a K h s
  ·exact Tail.const none
 | .block id a, K, h, s => ev_tail a (fun lp => blockK id (K lp)) (fun e s => by
   cases e with
   | n => exact h .n s
   | r => exact h .r s
   | x i =>
    show Tail fun lp => (match Nat.beq i id with
     | true => K lp .n s
     | false => K lp (.x i) s)
    cases Nat.beq i id
    ·exact h (.x i) s
    ·exact h .n s) s
 | .loop a, K, h, s => Tail.ask _ _
theorem lpc_tail {cn : Nat → AS → Option AS} {F : (Nat → AS → Option R) → Option R} (h : Tail F) : Tail fun L => F (lpc cn L) := by
 intro L r hF
 rcases h _ r hF with h | ⟨id, s, h1, h2⟩
 ·exact .inl fun L' => h _
 ·have h1' : (match cn id s with | some s' => L id s' | none => none) = some r := h1
  cases hc : cn id s with
  | none => rw [hc] at h1'; cases h1'
  | some s' =>
   rw [hc] at h1'
   refine .inr ⟨id, s', h1', fun L' h' => h2 _ ?_⟩
   show (match cn id s with | some s' => L' id s' | none => none) = some r
   rw [hc]; exact h'
theorem ctxs_tail : ∀ (c : Code) (K : (Nat → AS → Option R) → Kont R), (∀ e s, Tail fun lp => K lp e s) → ∀ id, (∀ lp, lk (ctxs X lp c (K lp)) id = none) ∨ ∃ (a : Code) (K' : (Nat → AS → Option R) → Kont R), (∀ e s, Tail fun lp => K' lp e s) ∧ ∀ lp, lk (ctxs X lp c (K lp)) id = some (a, K' lp)
 | .skip, K, h, id | .label _, K, h, id | .exit _, K, h, id | .ret, K, h, id | .goto _, K, h, id | .refuse _, K, h, id | .scope _, K, h, id | .rangeFunc .., K, h, id | .region .., K, h, id => .inl fun _ => rfl
 | .seq a b, K, h, id => by
  have h1 : ∀ e s, Tail fun lp => seqK X lp b (K lp) e s := by
   intro e s
   cases e with
   | n => exact ev_tail b K h s
   | x i => exact h (.x i) s
   | r => exact h .r s
  rcases ctxs_tail a (fun lp => seqK X lp b (K lp)) h1 id with ha | ⟨a', K', h2, h3⟩
  ·rcases ctxs_tail b K h id with hb | ⟨a', K', h2, h3⟩
   ·exact .inl fun lp => by simp only [ctxs, lk_append, ha, hb]
   ·exact .inr ⟨a', K', h2, fun lp => by simp only [ctxs, lk_append, ha, h3]⟩
  ·exact .inr ⟨a', K', h2, fun lp => by simp only [ctxs, lk_append, h3]⟩
 | .cond _ a b, K, h, id => by
  rcases ctxs_tail a K h id with ha | ⟨a', K', h2, h3⟩
  ·rcases ctxs_tail b K h id with hb | ⟨a', K', h2, h3⟩
   ·exact .inl fun lp => by simp only [ctxs, lk_append, ha, hb]
   ·exact .inr ⟨a', K', h2, fun lp => by simp only [ctxs, lk_append, ha, h3]⟩
  ·exact .inr ⟨a', K', h2, fun lp => by simp only [ctxs, lk_append, h3]⟩
 | .block i a, K, h, id => ctxs_tail a (fun lp => blockK i (K lp)) (fun e s => by
   cases e with
   | n => exact h .n s
   | r => exact h .r s
   | x j =>
    show Tail fun lp => (match Nat.beq j i with
     | true => K lp .n s
     | false => K lp (.x j) s)
    cases Nat.beq j i
    ·exact h (.x j) s
    ·exact h .n s) id
 | .loop a, K, h, id => by
  cases hb : Nat.beq id (headId a) with
  | true => exact .inr ⟨a, K, h, fun lp => by simp only [ctxs, lk, hb]; rfl⟩
  | false =>
   rcases ctxs_tail a (fun lp => loopK lp (headId a) (K lp)) (fun e s => by
    cases e with
    | n => exact Tail.ask _ _
    | x i => exact h (.x i) s
    | r => exact h .r s) id with ha | ⟨a', K', h2, h3⟩
   ·exact .inl fun lp => by simp only [ctxs, lk, hb]; exact ha lp
   ·exact .inr ⟨a', K', h2, fun lp => by simp only [ctxs, lk, hb]; exact h3 lp⟩
noncomputable def L (X : Ctx) (cn : Nat → AS → Option AS) (c : Code) (K0 : Kont R) (r : R) : Nat → AS → Option R :=
 fun id s => @ite _ (∃ n, ans X cn c K0 n id s = some r) (Classical.propDecidable _) (some r) none
variable {cn : Nat → AS → Option AS} {c : Code} {K0 : Kont R} {r : R}
theorem L_some {id : Nat} {s : AS} {r' : R} : L X cn c K0 r id s = some r' ↔ r' = r ∧ ∃ n, ans X cn c K0 n id s = some r := by
 unfold L
 by_cases h : ∃ n, ans X cn c K0 n id s = some r
 ·rw [if_pos h]
  exact ⟨fun e => ⟨(Option.some.inj e).symm, h⟩, fun e => by rw [e.1]⟩
 ·rw [if_neg h]
  exact ⟨(fun e => by cases e), fun e => absurd e.2 h⟩
theorem L_find {F : (Nat → AS → Option R) → Option R} (hF : Tail F) (h : F (lpc cn (L X cn c K0 r)) = some r) : ∃ n, F (lpc cn (ans X cn c K0 n)) = some r := by
 rcases lpc_tail (cn := cn) hF _ r h with h | ⟨id, s, h1, h2⟩
 ·exact ⟨0, h _⟩
 ·obtain ⟨_, n, hn⟩ := L_some.1 h1
  exact ⟨n, h2 _ hn⟩
theorem L_step {id : Nat} {s : AS} (h : (match lk (ctxs X (lpc cn (L X cn c K0 r)) c K0) id with
  | some (a, K) => ev X (lpc cn (L X cn c K0 r)) a (loopK (lpc cn (L X cn c K0 r)) id K) s
  | none => none) = some r) : L X cn c K0 r id s = some r := by
 refine L_some.2 ⟨rfl, ?_⟩
 rcases ctxs_tail (X := X) c (fun _ => K0) (fun e s => Tail.const _) id with hc | ⟨a, K', hK', hc⟩
 ·rw [hc] at h; cases h
 ·rw [hc] at h
  have hF : Tail fun lp => ev X lp a (loopK lp id (K' lp)) s := ev_tail a (fun lp => loopK lp id (K' lp)) (fun e s => by
    cases e with
    | n => exact Tail.ask _ _
    | x i => exact hK' (.x i) s
    | r => exact hK' .r s) s
  obtain ⟨n, hn⟩ := L_find hF h
  refine ⟨n + 1, ?_⟩
  simp only [ans]
  rw [hc]
  exact hn
end
theorem top_ok {R : Type} {W : SW} {X : Ctx} {r : R} (hX : CtxW W X) {cn : Nat → AS → Option AS} (hcn : CnOK W cn) {c : Code} {K0 : Kont R} {Q0 : Post} (hd : slotsOk W.N c = true) (hn : (loopIds c).Nodup) (hl : LeafOK W r K0 Q0)
  {s : AS} (h : ev X (lpc cn (L X cn c K0 r)) c K0 s = some r) {σ : Nat → Value} {a : Act} {w : World} (hs : St W s σ a w) : c.wp W.P Q0 a w := by
 obtain ⟨n, hn'⟩ := L_find (F := fun lp => ev X lp c K0 s) (ev_tail c (fun _ => K0) (fun e s => Tail.const _) s) h
 have hloops := loops_ok (W := W) (r := r) hX hcn hd hn hl
 dsimp only at hloops
 refine (ev_ok (I := fun id m a w => ∃ s σ, ans X cn c K0 m id s = some r ∧ St W s σ a w) (β := fun _ => n + 1) (lp := lpc cn (ans X cn c K0 n)) hX ?_ c K0 Q0 hd hl ?_).1 s σ a w hn' hs
 ·intro id s σ a w h hs
  have h' : (match cn id s with | some s' => ans X cn c K0 n id s' | none => none) = some r := h
  cases hc : cn id s with
  | none => rw [hc] at h'; cases h'
  | some s' =>
   rw [hc] at h'
   obtain ⟨σ', hs'⟩ := hcn id s s' σ a w hc hs
   exact ⟨n, Nat.lt_succ_self n, s', σ', h', hs'⟩
 ·intro y hy s σ a w h hs
  have h' : (match cn y.1 s with | some s' => ans X cn c K0 n y.1 s' | none => none) = some r := h
  cases hc : cn y.1 s with
  | none => rw [hc] at h'; cases h'
  | some s' =>
   rw [hc] at h'
   obtain ⟨σ', hs'⟩ := hcn _ s s' σ a w hc hs
   exact hloops n (fun _ => n + 1) (fun _ => Nat.lt_succ_self n) _ y hy a w ⟨s', σ', h', hs'⟩
end Go.RR
