/- Operations joined; regions in the order of the text. No condition. -/
import Derived.Test.YtbmaolhjplapoaaGreatDoorRz
import Derived.Test.YtbmaolhjplapoaaGreatDoorR4
set_option linter.unusedVariables false
set_option linter.unusedSimpArgs false
namespace Go.RR
open Go Go.RowKit
def dstOk (N : Nat) (o : Oper) : Bool := match o.dst with
 | some d => Nat.blt d N
 | none => true
theorem dstOk_spec {N : Nat} {o : Oper} (h : dstOk N o = true) : ∀ i, o.dst = some i → i < N := by
 intro i hi
 unfold dstOk at h
 rw [hi] at h
 exact Nat.le_of_ble_eq_true h
section
variable {R : Type} {W : SW} {X : Ctx} {s : AS} {o : Oper} {K : Eff → Option R} {r : R}
theorem aop_ok (hX : CtxW W X) (hdst : dstOk W.N o = true) (h : aop X s o K = some r) : ∃ e, K e = some r ∧ OpOK W o s e := by
 have hT := hX.tab
 have hd := dstOk_spec hdst
 unfold aop at h
 split at h
 ·-- move
  rename_i x ho
  split at h
  ·cases h
  ·cases h
  ·rename_i sv h1 h2
   exact aMove_ok hd (.inl ho) rfl h1 h
 ·rename_i x ho
  split at h
  ·cases h
  ·cases h
  ·rename_i sv h1 h2
   exact aMove_ok hd (.inr ho) rfl h1 h
 ·rename_i c a b ho
  exact aPick_ok hd ho h
 ·rename_i t ho
  split at h
  ·rename_i z hz
   exact aAlloc_ok hT hd ho hz h
  ·cases h
 ·rename_i t x ho
  split at h
  ·rename_i z hz
   exact aBox_ok hd ho hz h
  ·cases h
 ·rename_i t x ho
  exact aLoad_ok hT hd ho h
 ·rename_i t x y ho
  split at h
  ·rename_i hn
   exact aStore_ok hT ho hn h
  ·cases h
 ·rename_i x ho
  split at h
  ·rename_i b p off hx
   split at h
   ·rename_i blk hb
    exact aNil_ok hd ho hx hb h
   ·cases h
  ·cases h
 ·rename_i op t x y u ho
  split at h
  ·rename_i a b hx hy
   cases hag : (isAg a && isAg b) with
   | true =>
    rw [hag, cond_true] at h
    rw [Bool.and_eq_true] at hag
    exact aEq_ok hd ho hx hy hT hag h
   | false =>
    rw [hag, cond_false] at h
    exact aBin_ok hd ho hx hy hT h
  ·cases h
 ·rename_i t x ho
  split at h
  ·rename_i b hx
   exact aNot_ok hd ho hx h
  ·cases h
 ·rename_i t x ho
  split at h
  ·rename_i k b hx
   exact aNeg_ok hd ho hx h
  ·cases h
 ·rename_i t u x ho
  exact aConv_ok hT hd ho h
 ·rename_i f fst cs ho
  split at h
  ·rename_i xs hf hx
   exact aMakeFunc_ok hd ho hf hx h
  ·cases h
 ·rename_i t x i ho
  exact aFieldAddr_ok hT hd ho h
 ·rename_i t x y ho
  exact aIndexAddr_ok hT hd ho h
 ·rename_i t x y ho
  exact aIndex_ok hT hd ho h
 ·rename_i t x i ho
  exact aField_ok hT hd ho h
 ·rename_i t ps ho
  exact aBuild_ok hT hd ho h
 ·rename_i t m ps ho
  exact aBuildSlice_ok hT hX.wk hd ho h
 ·rename_i t x y ho
  exact aMakeSlice_ok hT hd ho h
 ·rename_i t x lo hi ho
  exact aSlice_ok hT hd ho h
 ·rename_i x i ho
  exact aExtract_ok hd ho h
 ·rename_i xs ts ho
  split at h
  ·rename_i x t h1 h2
   have e1 : xs = #[x] := Array.toList_inj.1 h1
   have e2 : ts = #[t] := Array.toList_inj.1 h2
   subst e1; subst e2
   exact aLen_ok hT hd ho h
  ·cases h
 ·rename_i xs ts ho
  exact aMinMax_ok (mx := true) hd ho h
 ·rename_i xs ts ho
  exact aMinMax_ok (mx := false) hd ho h
 ·rename_i xs ts ho
  split at h
  ·rename_i x y t u hxs hts
   have e1 : xs = #[x, y] := Array.toList_inj.1 hxs
   have e2 : ts = #[t, u] := Array.toList_inj.1 hts
   subst e1; subst e2
   exact aAppend_ok hT hd ho h
  ·cases h
 ·rename_i f xs ts ho
  exact aCall_ok hX hd ho h
 ·cases h
end
def SFof (s : AS) : Nat → SV := fun i => s.slot i
def HFof (s : AS) : HF := fun b => lk s.hp b
def Fresh (s : AS) : Prop := ∀ b, s.n ≤ b → lk s.hp b = none
def St (W : SW) (s : AS) (σ : Nat → Value) (a : Act) (w : World) : Prop := Fresh s ∧ Sim W (SFof s) (HFof s) σ a w
theorem sub_of (s : AS) : Sub s (SFof s) (HFof s) := ⟨fun i x h => by simp only [SFof, AS.slot, h], fun b x h => h⟩
theorem lk_append {α : Type} : ∀ (xs ys : List (Nat × α)) (i : Nat), lk (xs ++ ys) i = match lk xs i with | some x => some x | none => lk ys i
 | [], ys, i => rfl
 | (j, x) :: xs, ys, i => by
  simp only [List.cons_append, lk]
  cases Nat.beq i j
  ·exact lk_append xs ys i
  ·rfl
theorem lk_mem {α : Type} : ∀ (xs : List (Nat × α)) (i : Nat) (x : α), lk xs i = some x → (i, x) ∈ xs
 | [], i, x, h => by cases h
 | (j, y) :: xs, i, x, h => by
  simp only [lk] at h
  cases hb : Nat.beq i j
  ·rw [hb] at h; exact List.mem_cons_of_mem _ (lk_mem xs i x h)
  ·rw [hb] at h
   obtain rfl := Option.some.inj h
   rw [Nat.eq_of_beq_eq_true hb]; simp
theorem SF_apply (s : AS) (e : Eff) : SFof (s.apply e) = appS (SFof s) e.dst := by
 funext i
 unfold SFof AS.apply AS.slot appS
 cases e.dst with
 | none => rfl
 | some d =>
  obtain ⟨j, x⟩ := d
  simp only [lk, setF]
  by_cases h : i = j
  ·subst h; simp
  ·have : Nat.beq i j = false := beqF h
   rw [this, if_neg h]
   rfl
theorem HF_apply (s : AS) (e : Eff) : HFof (s.apply e) = appH (HFof s) e.hp := by
 funext b
 unfold HFof AS.apply
 dsimp only
 induction e.hp with
 | nil => rfl
 | cons p r ih =>
  obtain ⟨j, x⟩ := p
  simp only [List.cons_append, lk, appH]
  by_cases h : b = j
  ·subst h; rw [setF_same]; simp
  ·have : Nat.beq b j = false := beqF h
   rw [this, setF_other _ _ h]
   exact ih
theorem Fresh.apply {s : AS} {e : Eff} (h : Fresh s) (he : EffOK s e) : Fresh (s.apply e) := by
 intro b hb
 have hb' : e.n ≤ b := hb
 unfold AS.apply
 dsimp only
 rw [lk_append]
 cases hl : lk e.hp b with
 | none => exact h b (Nat.le_trans he.1 hb')
 | some x =>
  rcases he.2 b x (lk_mem _ _ _ hl) with ⟨_, h2⟩ | h2
  ·omega
  ·rw [h b (Nat.le_trans he.1 hb')] at h2; cases h2
theorem SF_put (s : AS) (d : Option Nat) (x : SV) : SFof (s.put d x) = appS (SFof s) (dstE d x) := by
 cases d with
 | none => rfl
 | some i =>
  have := SF_apply s ⟨some (i, x), [], s.n⟩
  exact this
theorem HF_put (s : AS) (d : Option Nat) (x : SV) : HFof (s.put d x) = HFof s := by cases d <;> rfl
theorem Fresh.put {s : AS} (h : Fresh s) (d : Option Nat) (x : SV) : Fresh (s.put d x) := by cases d <;> exact h
section
variable {R : Type} {W : SW} {X : Ctx}
theorem splitB_ok {spl : Bool} {s : AS} {d : Option Nat} {K : AS → Option R} {r : R} (h : splitB spl s d K = some r) {σ : Nat → Value} {a : Act} {w : World} (hs : St W s σ a w) : ∃ s', K s' = some r ∧ St W s' σ a w := by
 unfold splitB at h
 split at h
 ·rename_i i
  split at h
  ·rename_i b hb
   have key : St W (s.put (some i) (.a (.v (.bool b)))) σ a w := by
    refine ⟨hs.1.put _ _, ?_⟩
    rw [SF_put, HF_put]
    have : appS (SFof s) (dstE (some i) (.a (.v (.bool b)))) = SFof s := by
     funext j
     by_cases e : j = i
     ·subst e
      show setF (SFof s) j _ j = _
      rw [setF_same]; exact hb.symm
     ·show setF (SFof s) i _ j = _
      rw [setF_other _ _ e]
    rw [this]
    exact hs.2
   split at h
   ·exact ⟨_, h, key⟩
   ·exact ⟨_, h, key⟩
  ·exact ⟨s, h, hs⟩
 ·exact ⟨s, h, hs⟩
theorem wantS_ok {s : AS} {ops : List Oper} {g : Nat} {want b : Bool} (h : wantS s (dstOf ops g) want = some b) {σ : Nat → Value} {a : Act} {w : World} (hs : St W s σ a w) {o : Oper} (ho : o.guard = some (g, want)) : Region.wanted o (yielded ops.toArray a.tmps) = b := by
 unfold wantS at h
 split at h
 ·cases h
 ·rename_i i hi
  have hd : ∃ o', ops[g]? = some o' ∧ o'.dst = some i := by
   unfold dstOf at hi
   split at hi
   ·rename_i o' ho'; exact ⟨o', ho', hi⟩
   ·cases hi
  obtain ⟨o', h1, h2⟩ := hd
  have hsl := hs.2.slot i
  split at h
  ·rename_i v hv
   have hv' : SFof s i = .a (.v (.bool v)) := hv
   rw [hv'] at hsl
   obtain rfl := Option.some.inj h
   have hq : a.tmps.getD i undef = .bool v := hsl.1
   have hy : yielded ops.toArray a.tmps g = some v := by
    cases ht : a.tmps[i]? with
    | none => simp [Array.getD_eq_getD_getElem?, ht, undef] at hq
    | some u =>
     have : u = .bool v := by simpa [Array.getD_eq_getD_getElem?, ht] using hq
     subst this
     simp [yielded, h1, h2, ht]
   simp only [Region.wanted, ho, hy]
   cases v <;> cases want <;> rfl
  ·rename_i hv
   have hv' : SFof s i = .un := hv
   rw [hv'] at hsl
   obtain rfl := Option.some.inj h
   have hq : a.tmps.getD i undef = undef := hsl
   have hy : yielded ops.toArray a.tmps g = none := by
    cases ht : a.tmps[i]? with
    | none => simp [yielded, h1, h2, ht]
    | some u =>
     have : u = undef := by simpa [Array.getD_eq_getD_getElem?, ht] using hq
     subst this
     simp [yielded, h1, h2, ht, undef]
   simp only [Region.wanted, ho, hy]
   rfl
  ·cases h
theorem aops_ok (hX : CtxW W X) (ops : List Oper) {K : AS → Option R} {r : R} {Q : Exit → Act → World → Prop} (hK : ∀ s σ a w, K s = some r → St W s σ a w → Q .normal a w) :
  ∀ (rest : List Oper) (j : Nat) (s : AS) (σ : Nat → Value) (a : Act) (w : World), rest.all (dstOk W.N) = true → aops X ops K rest j s = some r → St W s σ a w → wpList W.P ops.toArray Q rest a w
 | [], j, s, σ, a, w, _, h, hs => wpList_nil (hK s σ a w h hs)
 | o :: rest, j, s, σ, a, w, hd, h, hs => by
  rw [List.all_cons, Bool.and_eq_true] at hd
  simp only [aops] at h
  refine wpList_step fun K' hK' => ?_
  have run : ∀ b, Region.wanted o (yielded ops.toArray a.tmps) = b → (match b with
    | true => aop X s o fun e => splitB (isGuard ops j || isPickCond ops o.dst) (s.apply e) o.dst (aops X ops K rest (j + 1))
    | false => aops X ops K rest (j + 1) (s.put o.dst .un)) = some r → if Region.wanted o (yielded ops.toArray a.tmps) then o.wp W.P a w K' Q else K' (a.put o.dst undef) w := by
   intro b hb hh
   rw [hb]
   cases b with
   | true =>
    obtain ⟨e, h1, h2, h3⟩ := aop_ok hX hd.1 hh
    refine h3 (SFof s) (HFof s) σ a w (sub_of s) (fun b h4 _ => hs.1 b h4) hs.2 K' Q fun σ' a' w' hsim => ?_
    rw [← SF_apply, ← HF_apply] at hsim
    obtain ⟨s', h5, h6⟩ := splitB_ok h1 (show St W (s.apply e) σ' a' w' from ⟨hs.1.apply h2, hsim⟩)
    exact hK' _ _ (aops_ok hX ops hK rest (j + 1) s' σ' a' w' hd.2 h5 h6)
   | false =>
    refine hK' _ _ (aops_ok hX ops hK rest (j + 1) _ σ _ w hd.2 hh ⟨hs.1.put _ _, ?_⟩)
    rw [SF_put, HF_put]
    exact hs.2.put (dstOk_spec hd.1) rfl
  cases hg : o.guard with
  | none =>
   rw [hg] at h
   exact run true (by simp only [Region.wanted, hg]) h
  | some p =>
   obtain ⟨g, want⟩ := p
   rw [hg] at h
   dsimp only at h
   cases hw : wantS s (dstOf ops g) want with
   | none => rw [hw] at h; cases h
   | some b =>
    rw [hw] at h
    exact run b (wantS_ok hw hs hg) (by cases b <;> exact h)
end
end Go.RR
