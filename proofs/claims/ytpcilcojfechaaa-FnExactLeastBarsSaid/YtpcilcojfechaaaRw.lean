/- Plain Lean that the closed forms use. No condition; no theorem of the program. -/
import Derived.Test.YtpcilcojfechaaaRo
import Derived.IntWalk
set_option linter.unusedVariables false
set_option linter.unusedSimpArgs false
namespace Go.RR
open Go

/-- A condition at so many numbers from one on. -/
def allN (p : Nat → Bool) : Nat → Nat → Bool
  | _, 0 => true
  | i, k + 1 => p i && allN p (i + 1) k
theorem allN_congr {p q : Nat → Bool} : ∀ (k i : Nat), (∀ j, i ≤ j → j < i + k → p j = q j) → allN p i k = allN q i k
  | 0, i, h => rfl
  | k + 1, i, h => by
    simp only [allN, h i (Nat.le_refl i) (by omega), allN_congr k (i + 1) fun j h1 h2 => h j (by omega) (by omega)]
theorem blt_true {a b : Nat} (h : a < b) : Nat.blt a b = true := Nat.ble_eq_true_of_le h
theorem blt_false {a b : Nat} (h : b ≤ a) : Nat.blt a b = false := by
  cases hb : Nat.blt a b
  · rfl
  · have := Nat.le_of_ble_eq_true hb; omega
theorem inB_nat {i n : Nat} (h : i < n) : inB (i : Int) n = true := by
  unfold inB
  simp; omega
theorem succ64 {i : Nat} (h : i < 1000000000) : IntKind.wrap .i64 ((i : Int) + 1) = ((i + 1 : Nat) : Int) := by
  rw [IntWalk.i64_in _ (by omega)]; omega
theorem lt_true {i n : Nat} (h : i < n) : decide ((i : Int) < (n : Int)) = true := by simp; exact h
theorem lt_false {i n : Nat} (h : n ≤ i) : decide ((i : Int) < (n : Int)) = false := by simp; exact h
theorem toNat_nat (i : Nat) : Int.toNat (i : Int) = i := rfl
end Go.RR
namespace Go.RR
open Go

/-! ### Folds -/
/-- A fold that may be left. -/
def exitL.{u, v, w} {α : Type u} {σ : Type v} {ρ : Type w} (step : σ → α → σ ⊕ ρ) : σ → List α → σ ⊕ ρ
  | s, [] => .inl s
  | s, x :: l => match step s x with
    | .inl s' => exitL step s' l
    | .inr r => .inr r
/-- What stands behind a fold's end or its exit. -/
def goesOn {σ ρ : Type} (G : σ → Prop) (E : ρ → Prop) : σ ⊕ ρ → Prop
  | .inl s => G s
  | .inr r => E r
section
variable {α σ ρ : Type}
theorem foldl_ext' {f g : σ → α → σ} : ∀ (l : List α) (s : σ), (∀ x, x ∈ l → ∀ s, f s x = g s x) → l.foldl f s = l.foldl g s
  | [], s, h => rfl
  | x :: l, s, h => by
    rw [List.foldl_cons, List.foldl_cons, h x (by simp) s]
    exact foldl_ext' l _ fun y hy => h y (by simp [hy])
theorem exitL_ext {f g : σ → α → σ ⊕ ρ} : ∀ (l : List α) (s : σ), (∀ x, x ∈ l → ∀ s, f s x = g s x) → exitL f s l = exitL g s l
  | [], s, h => rfl
  | x :: l, s, h => by
    simp only [exitL, h x (by simp) s]
    cases g s x with
    | inl s' => exact exitL_ext l s' fun y hy => h y (by simp [hy])
    | inr r => rfl
theorem exitL_map {β : Type} {g : β → α} {f : σ → α → σ ⊕ ρ} : ∀ (l : List β) (s : σ), exitL f s (l.map g) = exitL (fun s x => f s (g x)) s l
  | [], s => rfl
  | x :: l, s => by
    simp only [List.map_cons, exitL]
    cases f s (g x) with
    | inl s' => exact exitL_map l s'
    | inr r => rfl
theorem exitL_filter {c : α → Bool} {f : σ → α → σ ⊕ ρ} : ∀ (l : List α) (s : σ), exitL f s (l.filter c) = exitL (fun s x => cond (c x) (f s x) (.inl s)) s l
  | [], s => rfl
  | x :: l, s => by
    cases hc : c x
    · rw [List.filter_cons_of_neg (by simp [hc])]
      simp only [exitL, hc, cond_false]
      exact exitL_filter l s
    · rw [List.filter_cons_of_pos hc]
      simp only [exitL, hc, cond_true]
      cases f s x with
      | inl s' => exact exitL_filter l s'
      | inr r => rfl
theorem foldl_filter' {c : α → Bool} {f : σ → α → σ} : ∀ (l : List α) (s : σ), (l.filter c).foldl f s = l.foldl (fun s x => cond (c x) (f s x) s) s
  | [], s => rfl
  | x :: l, s => by
    cases hc : c x
    · rw [List.filter_cons_of_neg (by simp [hc]), List.foldl_cons, hc]
      exact foldl_filter' l s
    · rw [List.filter_cons_of_pos hc, List.foldl_cons, List.foldl_cons, hc]
      exact foldl_filter' l _
theorem foldl_push {β : Type} {c : α → Bool} {g : α → β} : ∀ (l : List α) (s : List β), l.foldl (fun s x => cond (c x) (s ++ [g x]) s) s = s ++ (l.filter c).map g
  | [], s => by simp
  | x :: l, s => by
    rw [List.foldl_cons, foldl_push l]
    cases hc : c x
    · rw [List.filter_cons_of_neg (by simp [hc])]; rfl
    · rw [List.filter_cons_of_pos hc]; simp

/-! ### Loops that count -/
/-- A loop over the numbers below one. -/
theorem count_loop (N : Nat) (G : Nat → σ → Prop) (step : σ → Nat → σ) (hs : ∀ i st, i < N → G (i + 1) (step st i) → G i st) :
    ∀ (k i : Nat), i + k = N → ∀ st, G N ((List.range' i k).foldl step st) → G i st
  | 0, i, h, st, g => by
    obtain rfl : i = N := h
    exact g
  | k + 1, i, h, st, g => by
    rw [List.range'_succ, List.foldl_cons] at g
    exact hs i st (by omega) (count_loop N G step hs k (i + 1) (by omega) _ g)
theorem count_exit (N : Nat) (G : Nat → σ → Prop) (E : ρ → Prop) (step : σ → Nat → σ ⊕ ρ) (hs : ∀ i st, i < N → goesOn (G (i + 1)) E (step st i) → G i st) :
    ∀ (k i : Nat), i + k = N → ∀ st, goesOn (G N) E (exitL step st (List.range' i k)) → G i st
  | 0, i, h, st, g => by
    obtain rfl : i = N := h
    exact g
  | k + 1, i, h, st, g => by
    rw [List.range'_succ] at g
    simp only [exitL] at g
    refine hs i st (by omega) ?_
    cases hst : step st i with
    | inl s' => rw [hst] at g; exact count_exit N G E step hs k (i + 1) (by omega) _ g
    | inr r => rw [hst] at g; exact g
/-- A loop over a list. -/
theorem list_loop' (d : α) (l : List α) (G : Nat → σ → Prop) (step : σ → α → σ) (hs : ∀ i st, i < l.length → l.getD i d ∈ l → G (i + 1) (step st (l.getD i d)) → G i st) :
    ∀ (m : List α) (i : Nat), l = l.take i ++ m → i ≤ l.length → ∀ st, G l.length (m.foldl step st) → G i st
  | [], i, h, hi, st, g => by
    have : l.length = i := by
      have := congrArg List.length h
      simp at this; omega
    rw [this] at g
    exact g
  | x :: m, i, h, hi, st, g => by
    have hlt : i < l.length := by
      have := congrArg List.length h
      simp at this; omega
    have hx : l.getD i d = x := by
      rw [List.getD_eq_getElem?_getD, h, List.getElem?_append_right (by rw [List.length_take]; exact Nat.min_le_left _ _), List.length_take, Nat.min_eq_left hi]
      simp
    have hm : l.getD i d ∈ l := by rw [hx, h]; simp
    refine hs i st hlt hm ?_
    rw [hx]
    rw [List.foldl_cons] at g
    refine list_loop' d l G step hs m (i + 1) ?_ (by omega) _ g
    have h2 : l.take (i + 1) = l.take i ++ [x] := by
      rw [List.take_add_one, show l[i]? = some x from ?_]
      · rfl
      · rw [List.getElem?_eq_getElem hlt]
        rw [List.getD_eq_getElem?_getD, List.getElem?_eq_getElem hlt] at hx
        exact congrArg some hx
    rw [h2, List.append_assoc]
    exact h
theorem list_loop (d : α) (l : List α) (G : Nat → σ → Prop) (step : σ → α → σ) (hs : ∀ i st, i < l.length → l.getD i d ∈ l → G (i + 1) (step st (l.getD i d)) → G i st) (st : σ) (g : G l.length (l.foldl step st)) : G 0 st :=
  list_loop' d l G step hs l 0 (by simp) (by omega) st g
theorem list_exit' (d : α) (l : List α) (G : Nat → σ → Prop) (E : ρ → Prop) (step : σ → α → σ ⊕ ρ) (hs : ∀ i st, i < l.length → l.getD i d ∈ l → goesOn (G (i + 1)) E (step st (l.getD i d)) → G i st) :
    ∀ (m : List α) (i : Nat), l = l.take i ++ m → i ≤ l.length → ∀ st, goesOn (G l.length) E (exitL step st m) → G i st
  | [], i, h, hi, st, g => by
    have : l.length = i := by
      have := congrArg List.length h
      simp at this; omega
    rw [this] at g
    exact g
  | x :: m, i, h, hi, st, g => by
    have hlt : i < l.length := by
      have := congrArg List.length h
      simp at this; omega
    have hx : l.getD i d = x := by
      rw [List.getD_eq_getElem?_getD, h, List.getElem?_append_right (by rw [List.length_take]; exact Nat.min_le_left _ _), List.length_take, Nat.min_eq_left hi]
      simp
    have hm : l.getD i d ∈ l := by rw [hx, h]; simp
    refine hs i st hlt hm ?_
    rw [hx]
    simp only [exitL] at g
    have h2 : l.take (i + 1) = l.take i ++ [x] := by
      rw [List.take_add_one, show l[i]? = some x from ?_]
      · rfl
      · rw [List.getElem?_eq_getElem hlt]
        rw [List.getD_eq_getElem?_getD, List.getElem?_eq_getElem hlt] at hx
        exact congrArg some hx
    cases hst : step st x with
    | inl s' =>
      rw [hst] at g
      exact list_exit' d l G E step hs m (i + 1) (by rw [h2, List.append_assoc]; exact h) (by omega) _ g
    | inr r => rw [hst] at g; exact g
theorem list_exit (d : α) (l : List α) (G : Nat → σ → Prop) (E : ρ → Prop) (step : σ → α → σ ⊕ ρ) (hs : ∀ i st, i < l.length → l.getD i d ∈ l → goesOn (G (i + 1)) E (step st (l.getD i d)) → G i st) (st : σ) (g : goesOn (G l.length) E (exitL step st l)) : G 0 st :=
  list_exit' d l G E step hs l 0 (by simp) (by omega) st g
end
theorem fits_small {n : Nat} (h : n ≤ 140737488355328) : fits n = true := Nat.ble_eq_true_of_le h
theorem inB_of {x : Int} {n : Nat} (h : 0 ≤ x ∧ x < (n : Int)) : inB x n = true := by
  unfold inB; simp [h.1, h.2]
theorem lt_neg (n : Nat) : decide ((n : Int) < (n : Int)) = false := by simp
end Go.RR
namespace Go.RR
open Go Go.RowKit

/-- Two contracts of one function, told apart by the arguments. -/
def orC (t : List A → Bool) (c d : List A → ACall) : List A → ACall := fun rs => match t rs with
  | true => c rs
  | false => d rs
theorem orSound {P : Program} {f : Nat} {t : List A → Bool} {c d : List A → ACall} (hc : Sound P f c) (hd : Sound P f d) : Sound P f (orC t c d) := by
  have key : ∀ rs, ∀ z : ACall, (z = c rs ∨ z = d rs) → ∀ r, z.c = some r → ∀ w vs, JJ P w → ArgsV w rs vs → Calls P f vs.toArray w fun e w' => ∃ v, e = .returned v ∧ ResR w w' (z.res r) v ∧ Below w.heap.size w w' := by
    intro rs z hz
    rcases hz with rfl | rfl
    · exact hc rs
    · exact hd rs
  intro rs
  refine key rs _ ?_
  unfold orC
  cases t rs
  · exact .inr rfl
  · exact .inl rfl
/-- A loop's answer: steps until an exit. -/
def iter {σ ρ : Type} (step : σ → Option (σ ⊕ ρ)) : Nat → σ → Option ρ
  | 0, _ => none
  | k + 1, s => match step s with
    | none => none
    | some (.inl s') => iter step k s'
    | some (.inr r) => some r
theorem exists_FU : ∃ n : Nat, ∀ m : Nat, m ≤ 2 ^ 100 → m < n := ⟨2 ^ 100 + 1, fun m h => Nat.lt_succ_of_le h⟩
/-- More steps than any loop here takes. -/
noncomputable def FU : Nat := Classical.choose exists_FU
theorem FU_big {m : Nat} (h : m ≤ 2 ^ 100) : m < FU := Classical.choose_spec exists_FU m h
/-- An answer of which something holds. -/
def sem {β : Type} (S : β → Prop) (o : Option β) : Prop := ∃ y, o = some y ∧ S y
section
variable {β γ σ ρ : Type} {S : β → Prop}
theorem sem_none {g : Prop} (h : sem S none) : g := by obtain ⟨y, e, _⟩ := h; cases e
theorem sem_some {y : β} (h : sem S (some y)) : S y := by obtain ⟨y', e, hy⟩ := h; cases e; exact hy
theorem sem_got {y : β} {g : Prop} (h : sem S (some y)) (k : S y → g) : g := k (sem_some h)
theorem sem_map {f : γ → β} {o : Option γ} (h : sem S (o.map f)) : sem (fun x => S (f x)) o := by
  cases o with
  | none => exact sem_none h
  | some x => exact ⟨x, rfl, sem_some h⟩
theorem sem_mapk {f : γ → β} {o : Option γ} {S' : γ → Prop} (h : sem S (o.map f)) (k : ∀ y, S (f y) → S' y) : sem S' o := by
  obtain ⟨y, e, hy⟩ := sem_map h
  exact ⟨y, e, k y hy⟩
theorem sem_cond {c : Bool} {x y : Option β} {g : Type} {X Y : g} {r : g} (h : sem S (cond c x y)) (hx : sem S x → X = r) (hy : sem S y → Y = r) : cond c X Y = r := by
  cases c
  · exact hy h
  · exact hx h
theorem sem_bind {m : Option γ} {f : γ → Option β} {g : Type} {F : γ → Option g} {r : g} (h : sem S (Option.bind m f)) (hf : ∀ v, sem S (f v) → F v = some r) : Option.bind m F = some r := by
  cases m with
  | none => exact sem_none h
  | some v => exact hf v h
theorem sem_bind2 {γ δ : Type} {m : Option (γ ⊕ δ)} {f : γ → Option β} {f' : δ → Option β} {g : Type} {F : γ → Option g} {F' : δ → Option g} {r : g} (h : sem S (bind2 m f f')) (hf : ∀ v, sem S (f v) → F v = some r) (hf' : ∀ v, sem S (f' v) → F' v = some r) : bind2 m F F' = some r := by
  cases m with
  | none => obtain ⟨y, e, _⟩ := h; cases e
  | some v =>
    cases v with
    | inl v => exact hf v h
    | inr v => exact hf' v h
/-- Leaves that answer alike. -/
def Leads {δ g : Type} (S : β → Prop) (r : g) (E : δ → Option β) (E' : δ → Option g) : Prop := ∀ v, sem S (E v) → E' v = some r
theorem sem_condK {c : Bool} {x y : Option β} {g : Type} {X Y : g} {r : g} (hx : sem S x → X = r) (hy : sem S y → Y = r) : sem S (cond c x y) → cond c X Y = r := fun h => sem_cond h hx hy
theorem sem_bindK {m : Option γ} {f : γ → Option β} {g : Type} {F : γ → Option g} {r : g} (hf : ∀ v, sem S (f v) → F v = some r) : sem S (Option.bind m f) → Option.bind m F = some r := fun h => sem_bind h hf
theorem sem_noneK {g : Prop} : sem S none → g := sem_none
theorem sem_bind2K {γ δ : Type} {m : Option (γ ⊕ δ)} {f : γ → Option β} {f' : δ → Option β} {g : Type} {F : γ → Option g} {F' : δ → Option g} {r : g} (hf : ∀ v, sem S (f v) → F v = some r) (hf' : ∀ v, sem S (f' v) → F' v = some r) : sem S (bind2 m f f') → bind2 m F F' = some r := fun h => sem_bind2 h hf hf'
theorem some_eq {g : Type} {x r : g} (h : r = x) : some x = some r := by rw [h]
theorem iter_sound {step : σ → Option (σ ⊕ ρ)} {G : σ → Prop} {E : ρ → Prop} (hs : ∀ x, sem (goesOn G E) (step x) → G x) : ∀ (k : Nat) (x : σ), sem E (iter step k x) → G x
  | 0, x, h => sem_none h
  | k + 1, x, h => by
    refine hs x ?_
    unfold iter at h
    split at h
    · exact sem_none h
    · rename_i s' e
      exact ⟨_, e, iter_sound hs k s' h⟩
    · rename_i r e
      exact ⟨_, e, show E r from sem_some h⟩

/-! ### Plain: what runs are -/
theorem iter_more {step : σ → Option (σ ⊕ ρ)} {x : ρ} : ∀ (k m : Nat) (s : σ), k ≤ m → iter step k s = some x → iter step m s = some x
  | 0, m, s, h, e => by cases e
  | k + 1, 0, s, h, e => by omega
  | k + 1, m + 1, s, h, e => by
    unfold iter at e ⊢
    split at e
    · cases e
    · rename_i s' e'
      exact iter_more k m s' (by omega) e
    · rename_i r e'
      exact e
/-- A run to its end: 'N' rounds from 'i' on, then an exit. -/
theorem iter_count {τ : Type} (step : σ → Option (σ ⊕ ρ)) (N : Nat) (emb : Nat → τ → σ) (g : τ → Nat → τ) (x : ρ) (hs : ∀ i st, i < N → step (emb i st) = some (.inl (emb (i + 1) (g st i)))) :
    ∀ (k i m : Nat), i + k = N → k < m → ∀ st, step (emb N ((List.range' i k).foldl g st)) = some (.inr x) → iter step m (emb i st) = some x
  | 0, i, m + 1, h, hm, st, e => by
    obtain rfl : i = N := h
    unfold iter
    rw [show step (emb i st) = some (.inr x) from e]
  | k + 1, i, m + 1, h, hm, st, e => by
    rw [List.range'_succ, List.foldl_cons] at e
    unfold iter
    rw [hs i st (by omega)]
    exact iter_count step N emb g x hs k (i + 1) m (by omega) (by omega) _ e
  | _, _, 0, _, hm, _, _ => by omega
/-- The same with a condition that lasts. -/
theorem iter_countI {τ : Type} (step : σ → Option (σ ⊕ ρ)) (N : Nat) (emb : Nat → τ → σ) (g : τ → Nat → τ) (I : Nat → τ → Prop) (x : ρ) (hs : ∀ i st, i < N → I i st → step (emb i st) = some (.inl (emb (i + 1) (g st i))) ∧ I (i + 1) (g st i)) :
    ∀ (k i m : Nat), i + k = N → k < m → ∀ st, I i st → (I N ((List.range' i k).foldl g st) → step (emb N ((List.range' i k).foldl g st)) = some (.inr x)) → iter step m (emb i st) = some x
  | 0, i, m + 1, h, hm, st, hI, e => by
    obtain rfl : i = N := h
    unfold iter
    rw [show step (emb i st) = some (.inr x) from e hI]
  | k + 1, i, m + 1, h, hm, st, hI, e => by
    rw [List.range'_succ, List.foldl_cons] at e
    unfold iter
    rw [(hs i st (by omega) hI).1]
    exact iter_countI step N emb g I x hs k (i + 1) m (by omega) (by omega) _ (hs i st (by omega) hI).2 e
  | _, _, 0, _, hm, _, _, _ => by omega
/-- A run that may be left. -/
theorem iter_exit {τ : Type} (step : σ → Option (σ ⊕ ρ)) (N : Nat) (emb : Nat → τ → σ) (g : τ → Nat → τ ⊕ ρ) (x : ρ) (fin : τ → ρ)
    (hs : ∀ i st, i < N → step (emb i st) = some (match g st i with | .inl st' => .inl (emb (i + 1) st') | .inr r => .inr r)) (he : ∀ st, step (emb N st) = some (.inr (fin st))) :
    ∀ (k i m : Nat), i + k = N → k < m → ∀ st, iter step m (emb i st) = some (match exitL g st (List.range' i k) with | .inl st' => fin st' | .inr r => r)
  | 0, i, m + 1, h, hm, st => by
    obtain rfl : i = N := h
    unfold iter
    rw [he st]
    rfl
  | k + 1, i, m + 1, h, hm, st => by
    rw [List.range'_succ]
    unfold iter exitL
    rw [hs i st (by omega)]
    cases hg : g st i with
    | inl st' => exact iter_exit step N emb g x fin hs he k (i + 1) m (by omega) (by omega) st'
    | inr r => rfl
  | _, _, 0, _, hm, _ => by omega
/-- Two runs side by side. -/
theorem iter_two {σ' : Type} {step : σ → Option (σ ⊕ ρ)} {step' : σ' → Option (σ' ⊕ ρ)} {R : σ → σ' → Prop}
    (hs : ∀ a b, R a b → (∃ a' b', step a = some (.inl a') ∧ step' b = some (.inl b') ∧ R a' b') ∨ ∃ x, step a = some (.inr x) ∧ step' b = some (.inr x)) : ∀ (m : Nat) (a : σ) (b : σ'), R a b → iter step m a = iter step' m b
  | 0, a, b, h => rfl
  | m + 1, a, b, h => by
    unfold iter
    rcases hs a b h with ⟨a', b', h1, h2, h3⟩ | ⟨x, h1, h2⟩
    · rw [h1, h2]; exact iter_two hs m a' b' h3
    · rw [h1, h2]
end
end Go.RR
