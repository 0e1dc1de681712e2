/- Calls: arguments with what they lead to, results, contracts. No condition. -/
import Derived.Test.YtbmaolhjplapoaaGreatDoorRh
set_option linter.unusedVariables false
set_option linter.unusedSimpArgs false
namespace Go.RR
open Go Go.RowKit
mutual
def CellsR (w : World) : A → List Value → Prop
 | .v x, cs => cs = [x] ∧ x.oneCell' = true
 | .rc fs, cs => CellsRL w fs cs
 | .fa n k f, cs => cs = (List.range n).map fun j => .int k (f j)
 | .fb n f, cs => cs = (List.range n).map fun j => .bool (f j)
 | .fa2 n m k f, cs => cs = (List.range (n * m)).map fun j => .int k (f (j / m) (j % m))
 | .lst e l, cs => ∃ xs ao cap, cs = [.slice ao l.length cap] ∧ l.length ≤ cap ∧ RowsC (Innr w (fun _ => False) 0) e l xs ∧ (l ≠ [] → ∃ g o, ao = some ⟨g, o, none⟩ ∧ g < w.heap.size ∧ Lies w g o xs)
 | .ref a, cs => ∃ g o ds, cs = [.pointer (some ⟨g, o, none⟩)] ∧ g < w.heap.size ∧ CellsR w a ds ∧ Lies w g o ds
 | .clo f xs, cs => (xs.all fun c => !isAg c) = true ∧ ∃ ds, cs = [.func (.func f) #[] ds.toArray] ∧ CellsRL w xs ds
 | .nil _, _ | .sl _, _ | .ptr .., _ => False
def CellsRL (w : World) : List A → List Value → Prop
 | [], cs => cs = []
 | a :: as, cs => ∃ c1 c2, cs = c1 ++ c2 ∧ CellsR w a c1 ∧ CellsRL w as c2
end
def ArgV (w : World) (a : A) (v : Value) : Prop := match isAg a with
 | true => ∃ cs, v = .agg cs.toArray ∧ CellsR w a cs
 | false => CellsR w a [v]
def ArgsV (w : World) : List A → List Value → Prop
 | [], vs => vs = []
 | a :: as, vs => ∃ v us, vs = v :: us ∧ ArgV w a v ∧ ArgsV w as us
def Ow (vs : List Value) (k : Nat) : Prop := ∃ v ∈ vs, ownG v = some k
def OwnNew (w w' : World) (v : Value) (e n : Nat) (xs : List Value) : Prop :=
 (n = 0 ∧ ∃ ao, v = .slice ao 0 0) ∨
 ∃ g cap cur ty, v = .slice (some ⟨g, 0, none⟩) n cap ∧ w.heap.size ≤ g ∧ 0 < cap ∧ w'.heap[g]? = some (.cells cur ty (0, 0)) ∧ n ≤ cap ∧ cap ≤ maxLen ∧ cur.size = cap * e ∧ cur.toList.take (n * e) = xs
def ResV1 (w w' : World) (O : Nat → Prop) : A → Value → Prop
 | .lst e l, v => ∃ xs, RowsC (Innr w' O w.heap.size) e l xs ∧ OwnNew w w' v e.sz l.length xs
 | a, v => (∀ H, WfA H a) ∧ v = val (fun _ => undef) a
def ResVs (w w' : World) (xs : List A) (vs : List Value) : Prop :=
 xs.length = vs.length ∧ (∀ (i : Nat) (a : A) (v : Value), xs[i]? = some a → vs[i]? = some v → ResV1 w w' (Ow vs) a v) ∧ ∀ (i j : Nat) (u v : Value), i ≠ j → vs[i]? = some u → vs[j]? = some v → ∀ k, ownG u = some k → ownG v ≠ some k
def ResR (w w' : World) : Res → Value → Prop
 | .unit, v => v = .tuple #[]
 | .one a, v => ResVs w w' [a] [v]
 | .tup xs, v => ∃ vs, v = .tuple vs.toArray ∧ ResVs w w' xs vs
def Sound (P : Program) (f : Nat) (Φ : List A → ACall) : Prop :=
 ∀ rs r, (Φ rs).c = some r → ∀ w vs, JJ P w → ArgsV w rs vs → Calls P f vs.toArray w fun e w' => ∃ v, e = .returned v ∧ ResR w w' ((Φ rs).res r) v ∧ Below w.heap.size w w'
def OwnV (w : World) (v : Value) (e n : Nat) (xs : List Value) : Prop :=
 (n = 0 ∧ ∃ ao, v = .slice ao 0 0) ∨
 ∃ g cap cur ty, v = .slice (some ⟨g, 0, none⟩) n cap ∧ 0 < cap ∧ w.heap[g]? = some (.cells cur ty (0, 0)) ∧ n ≤ cap ∧ cap ≤ maxLen ∧ cur.size = cap * e ∧ cur.toList.take (n * e) = xs
structure But (v : Value) (w w' : World) : Prop where
 os : w'.os = w.os
 tape : w'.tape = w.tape
 output : w'.output = w.output
 size : w.heap.size ≤ w'.heap.size
 block : ∀ k, k < w.heap.size → ownG v ≠ some k → w'.heap[k]? = w.heap[k]?
abbrev noInn : Inn := fun _ _ _ => False
def ResU : Option A → Value → Prop
 | some a, z => (∀ H, WfA H a) ∧ z = val (fun _ => undef) a
 | none, z => z = .tuple #[]
def USound (P : Program) (f : Nat) (u : UCon) : Prop :=
 ∀ (e : ET) (l : List e.den) (rest : List A) r, e.flat = true → rest.all isV = true → (u e l rest).c = some r → ∀ w v xs vs, JJ P w → (∀ k, ownG v = some k → ¬ TabBlk P k) → OwnV w v e.sz l.length xs → RowsC noInn e l xs → ArgsV w rest vs →
  Calls P f (v :: vs).toArray w fun en w' => ∃ z, en = .returned z ∧ ResU ((u e l rest).res r) z ∧ ∃ xs', RowsC noInn e ((u e l rest).new r) xs' ∧ OwnV w' v e.sz ((u e l rest).new r).length xs' ∧ But v w w'
def Con.flat : Con → Bool
 | .box _ => true
 | .arr e _ => e.flat
def swH (P : Program) (w : World) (N : Nat) (H : HF) (σ : Nat → Value) (lo : Nat) (hlo : lo ≤ w.heap.size) (gl : List Value) (hJ : JJ P w) (hO : ∀ g, Owned H σ g → ¬ TabBlk P g ∧ lo ≤ g) : SW :=
 ⟨P, w, fun g => w.heap.size ≤ g ∨ Owned H σ g, lo, N, hlo, fun _ h => .inl h, gl, hJ, fun g h ht => h.elim (fun h => absurd (JJ_lt hJ ht) (by omega)) fun h => (hO g h).1 ht, fun g h => h.elim (fun h => Nat.le_trans hlo h) fun h => (hO g h).2⟩
structure Given (W : SW) (H : HF) (σ : Nat → Value) (w : World) : Prop where
 one : ∀ b, (σ b).oneCell' = true
 blk : ∀ b blk, H b = some (some blk) → RepB W H σ w (σ b) blk
 sep : ∀ b b' c c', H b = some (some ⟨true, c⟩) → H b' = some (some ⟨true, c'⟩) → b ≠ b' → ∀ k, ownG (σ b) = some k → ownG (σ b') ≠ some k
def Kin (W : SW) (H : HF) (σ : Nat → Value) (w' : World) (c : Con) (v : Value) : Prop :=
 ∃ (b0 : Nat) (e : ET) (l0 l : List e.den) (xs0 ys : List Value), H b0 = some (some ⟨true, .arr e l0⟩) ∧ xs0.length = l0.length * e.sz ∧ OwnArr W W.W0 (σ b0) e.sz l0.length xs0 ∧ c = .arr e l ∧ OwnArr W w' v e.sz l.length ys ∧ ∀ I : Inn, RowsC I e l0 xs0 → RowsC I e l ys
theorem OwnArr.uniq {W W' : SW} {w : World} {v : Value} {e n : Nat} {xs ys : List Value} (h : OwnArr W w v e n xs) (h' : OwnArr W' w v e n ys) (hx : xs.length = n * e) (hy : ys.length = n * e) : xs = ys := by
 rcases h with ⟨rfl, _⟩ | ⟨g, cap, cur, ty, rfl, _, hc, hg, _, _, _, h5⟩
 ·rw [Nat.zero_mul] at hx hy
  rw [List.eq_nil_of_length_eq_zero hx, List.eq_nil_of_length_eq_zero hy]
 ·rcases h' with ⟨rfl, _⟩ | ⟨g', cap', cur', ty', e1, _, hc', hg', _, _, _, h5'⟩
  ·rw [Nat.zero_mul] at hx hy
   rw [List.eq_nil_of_length_eq_zero hx, List.eq_nil_of_length_eq_zero hy]
  ·simp only [Value.slice.injEq, Option.some.injEq, Addr.mk.injEq] at e1
   obtain ⟨⟨rfl, _⟩, _, rfl⟩ := e1
   rw [hg] at hg'
   simp only [Option.some.injEq, Obj.cells.injEq] at hg'
   rw [← h5, ← h5', hg'.1]
structure Back (W : SW) (H : HF) (σ : Nat → Value) (m : Nat) (w' : World) (o : HOut) (z : Value) (σ' : Nat → Value) : Prop where
 bel : Bel W w'
 ltr : ∀ b, (H b).isSome = true → σ' b = σ b
 one : ∀ b, (σ' b).oneCell' = true
 shape : Shape H (appH H o.hp)
 res : SlotR (appH H o.hp) σ' o.res z
 ids : ∀ b x, lk o.hp b = some x → (∃ c, H b = some (some ⟨true, c⟩)) ∨ (m ≤ b ∧ b < o.n)
 all : ∀ b c, H b = some (some ⟨true, c⟩) → (lk o.hp b).isSome = true
 blk : ∀ b blk, lk o.hp b = some (some blk) → blk.own = true ∧ (blk.con.flat = true ∨ Kin W H σ w' blk.con (σ' b)) ∧ RepB W (appH H o.hp) σ' w' (σ' b) blk
 sep : ∀ b b' c c', appH H o.hp b = some (some ⟨true, c⟩) → appH H o.hp b' = some (some ⟨true, c'⟩) → b ≠ b' → ∀ k, ownG (σ' b) = some k → ownG (σ' b') ≠ some k
def HSound (P : Program) (f : Nat) (γ : HCon) : Prop :=
 ∀ as hp r, (γ as hp).c = some r → ∀ (w : World) (lo : Nat) (hlo : lo ≤ w.heap.size) (σ : Nat → Value) (hJ : JJ P w) (hO : ∀ g, Owned (lk hp) σ g → ¬ TabBlk P g ∧ lo ≤ g), (∀ b, b < hp.length ↔ (lk hp b).isSome = true) → WfL (lk hp) as → Given (swH P w 0 (lk hp) σ lo hlo [] hJ hO) (lk hp) σ w →
  Calls P f (as.map (val σ)).toArray w fun en w' => ∃ z, en = .returned z ∧ ∃ σ', Back (swH P w 0 (lk hp) σ lo hlo [] hJ hO) (lk hp) σ hp.length w' ((γ as hp).out r) z σ'
def Enters (P : Program) (f : Nat) : Prop := ∀ args w, (callFunc f args).run P w = .ok (.enter f args) w
structure CtxOK (P : Program) (X : Ctx) : Prop where
 tab : TabOK P X.T
 mix : P.follows .mixedOrders = true
 fn : ∀ f rs r, (X.Φ f rs).c = some r → Enters P f ∧ Sound P f (X.Φ f)
 up : ∀ f u, X.Ψ f = some u → Enters P f ∧ USound P f u
 hp : ∀ f γ, X.Ξ f = some γ → Enters P f ∧ HSound P f γ
structure CtxW (W : SW) (X : Ctx) : Prop extends CtxOK W.P X where
 wk : X.weak = true → W.lo = 0
theorem Innr.any {w : World} {O : Nat → Prop} {lo : Nat} {k : IntKind} {l : List Int} {v : Value} (h : Innr w O lo k l v) : Innr w (fun _ => False) 0 k l v := by
 obtain ⟨ao, cap, h1, h2, h3⟩ := h
 exact ⟨ao, cap, h1, h2, fun hl => by
  obtain ⟨g, o, e, _, hg, _, hr⟩ := h3 hl
  exact ⟨g, o, e, Nat.zero_le _, hg, fun hf => hf, hr⟩⟩
section
variable {W : SW} {S : Nat → SV} {H : HF} {σ : Nat → Value} {a : Act} {w : World} {s : AS}
theorem ptr_lt (hsim : Sim W S H σ a w) {b : Nat} {blk : Blk} (hb : H b = some (some blk)) {p : List Nat} {off : Nat} (hp : offC blk.con p = some off) {g o : Nat} (h : ptrv (σ b) 0 = .pointer (some ⟨g, o, none⟩)) : g < w.heap.size := by
 have hr := hsim.blk b _ hb
 obtain ⟨own, c⟩ := blk
 cases own <;> cases c
 ·obtain ⟨hw, g', o', e, hg, hO, hl⟩ := hr
  rw [e] at h
  simp only [ptrv, Value.pointer.injEq, Option.some.injEq, Addr.mk.injEq] at h
  rw [← h.1]; exact hg
 ·rename_i e l
  obtain ⟨xs, ao, cap, _, e1, hc, hl⟩ := hr
  have hne : l ≠ [] := by
   rintro rfl
   cases p with
   | nil => cases hp
   | cons i p => simp [offC] at hp
  obtain ⟨g', o', e2, hg, _⟩ := hl hne
  rw [e1, e2] at h
  simp only [ptrv, Value.pointer.injEq, Option.some.injEq, Addr.mk.injEq] at h
  rw [← h.1]; exact hg
 ·obtain ⟨hw, g', ty, e, hM, hg⟩ := hr
  rw [e] at h
  simp only [ptrv, Value.pointer.injEq, Option.some.injEq, Addr.mk.injEq] at h
  rw [← h.1]; exact (Array.getElem?_eq_some_iff.1 hg).1
 ·rename_i e l
  obtain ⟨xs, _, ⟨hn, ao, e1⟩ | ⟨g', cap, cur, ty, e1, hM, hc, hg, _⟩⟩ := hr
  ·have : l = [] := List.eq_nil_of_length_eq_zero hn
   subst this
   cases p with
   | nil => cases hp
   | cons i p => simp [offC] at hp
  ·rw [e1] at h
   simp only [ptrv, Value.pointer.injEq, Option.some.injEq, Addr.mk.injEq] at h
   rw [← h.1]; exact (Array.getElem?_eq_some_iff.1 hg).1
theorem sl_cells (hsim : Sim W S H σ a w) {b : Nat} {own : Bool} {e : ET} {l : List e.den} (hb : H b = some (some ⟨own, .arr e l⟩)) : CellsR w (.lst e l) [σ b] := by
 have hr := hsim.blk b _ hb
 cases own
 ·obtain ⟨xs, ao, cap, hx, e1, hc, hl⟩ := hr
  refine ⟨xs, ao, cap, by rw [e1], hc, hx.imp fun _ _ _ h => h.any, fun hne => ?_⟩
  obtain ⟨g, o, e2, hg, _, hlie⟩ := hl hne
  exact ⟨g, o, e2, hg, hlie⟩
 ·obtain ⟨xs, hx, ⟨hn, ao, e1⟩ | ⟨g, cap, cur, ty, e1, hM, hc, hg, h1, h2, h3, h4⟩⟩ := hr
  ·exact ⟨xs, ao, 0, by rw [e1, hn], by omega, hx.imp fun _ _ _ h => h.any, fun hne => absurd (List.eq_nil_of_length_eq_zero hn) hne⟩
  ·exact ⟨xs, _, cap, by rw [e1], h1, hx.imp fun _ _ _ h => h.any, fun hne => ⟨g, 0, rfl, (Array.getElem?_eq_some_iff.1 hg).1, Lies.of_heap hg h4⟩⟩
mutual
theorem resolve_ag : ∀ (d : Nat) (x y : A), resolve s d x = some y → isAg y = isAg x
 | 0, x, y, h => by simp only [resolve] at h; cases h
 | d + 1, .sl b, y, h => by
  simp only [resolve] at h
  split at h
  ·obtain rfl := Option.some.inj h; rfl
  ·cases h
 | d + 1, .ptr b p off, y, h => by
  simp only [resolve] at h
  split at h
  ·split at h
   ·split at h
    ·obtain rfl := Option.some.inj h; rfl
    ·cases h
   ·cases h
  ·cases h
 | d + 1, .rc fs, y, h => by
  simp only [resolve] at h
  split at h
  ·obtain rfl := Option.some.inj h; rfl
  ·cases h
 | d + 1, .clo f cs, y, h => by
  simp only [resolve] at h
  split at h
  ·obtain rfl := Option.some.inj h; rfl
  ·cases h
 | d + 1, .lst e l, y, h => by simp only [resolve] at h; cases h
 | d + 1, .ref x, y, h => by simp only [resolve] at h; cases h
 | d + 1, .nil _, y, h | d + 1, .v _, y, h | d + 1, .fa .., y, h | d + 1, .fb .., y, h | d + 1, .fa2 .., y, h => by
  simp only [resolve, Option.some.injEq] at h; subst h; rfl
theorem resolveL_ag : ∀ (d : Nat) (xs ys : List A), resolveL s d xs = some ys → (ys.all fun c => !isAg c) = xs.all fun c => !isAg c
 | d, [], ys, h => by
  have : ys = [] := by cases d <;> simp only [resolveL, Option.some.injEq] at h <;> exact h.symm
  subst this; rfl
 | 0, _ :: _, ys, h => by simp only [resolveL] at h; cases h
 | d + 1, x :: xs, ys, h => by
  simp only [resolveL] at h
  split at h
  ·rename_i y ys' hy hys
   obtain rfl := Option.some.inj h
   simp only [List.all_cons, resolve_ag d x y hy, resolveL_ag d xs ys' hys]
  ·cases h
end
mutual
theorem resolve_ok (hs : Sub s S H) (hsim : Sim W S H σ a w) : ∀ (d : Nat) (x y : A), WfA H x → resolve s d x = some y → CellsR w y (enc σ x) ∧ isAg y = isAg x
 | 0, x, y, _, h => by simp only [resolve] at h; cases h
 | d + 1, .sl b, y, hw, h => by
  simp only [resolve] at h
  split at h
  ·rename_i own e l hb
   obtain rfl := Option.some.inj h
   exact ⟨sl_cells hsim (hs.blk hb), rfl⟩
  ·cases h
 | d + 1, .nil e, y, hw, h => by
  simp only [resolve, Option.some.injEq] at h
  subst h
  exact ⟨⟨[], none, 0, rfl, Nat.zero_le _, rfl, fun hne => absurd rfl hne⟩, rfl⟩
 | d + 1, .ptr b p off, y, hw, h => by
  simp only [resolve] at h
  split at h
  ·rename_i own c hb
   split at h
   ·rename_i x hg
    split at h
    ·rename_i z hz
     obtain rfl := Option.some.inj h
     have hbb := hs.blk hb
     have hoff := hw.2 _ hbb
     obtain ⟨g, o, cs, h3, h4, h5⟩ := ptr_place hsim hbb hoff
     have hlt := ptr_lt hsim hbb hoff (h3 0)
     rcases getC_cells hg hoff h4 with ⟨k, l', w', u, v, rfl, _⟩ | ⟨hcase, u, v, he, hu, _⟩
     ·cases d <;> simp only [resolve] at hz <;> cases hz
     ·have hwx : WfA H x := by
       have hwc : WfC H c := by
        have := hsim.blk b _ hbb
        cases own <;> cases c <;> first | trivial | exact this.1
       rcases hcase with hok | ⟨a0, rfl, hg0⟩
       ·exact okA_wf hwc hg hok
       ·exact getA_wf p a0 x hwc hg0
      obtain ⟨h6, _⟩ := resolve_ok hs hsim d x z hwx hz
      refine ⟨⟨g, o + off, _, by rw [← h3 off]; rfl, hlt, h6, fun j v' hv' => ?_⟩, rfl⟩
      have := h5 (off + j) v' (by
       rw [he, List.append_assoc, List.getElem?_append_right (by omega), hu, Nat.add_sub_cancel_left, List.getElem?_append_left (List.getElem?_eq_some_iff.1 hv').1]
       exact hv')
      rw [Nat.add_assoc]
      exact this
    ·cases h
   ·cases h
  ·cases h
 | d + 1, .rc fs, y, hw, h => by
  simp only [resolve] at h
  split at h
  ·rename_i gs hgs
   obtain rfl := Option.some.inj h
   exact ⟨resolveL_ok hs hsim d fs gs hw hgs, rfl⟩
  ·cases h
 | d + 1, .clo f cs, y, hw, h => by
  simp only [resolve] at h
  split at h
  ·rename_i gs hgs
   obtain rfl := Option.some.inj h
   exact ⟨⟨(resolveL_ag d cs gs hgs).trans hw.2, _, rfl, resolveL_ok hs hsim d cs gs hw.1 hgs⟩, rfl⟩
  ·cases h
 | d + 1, .lst e l, y, hw, h => hw.elim
 | d + 1, .ref x, y, hw, h => hw.elim
 | d + 1, .v x, y, hw, h => by
  simp only [resolve, Option.some.injEq] at h
  subst h
  exact ⟨⟨rfl, hw⟩, rfl⟩
 | d + 1, .fa n k f, y, hw, h => by
  simp only [resolve, Option.some.injEq] at h
  subst h
  exact ⟨rfl, rfl⟩
 | d + 1, .fb n f, y, hw, h => by
  simp only [resolve, Option.some.injEq] at h
  subst h
  exact ⟨rfl, rfl⟩
 | d + 1, .fa2 n m k f, y, hw, h => by
  simp only [resolve, Option.some.injEq] at h
  subst h
  exact ⟨rfl, rfl⟩
theorem resolveL_ok (hs : Sub s S H) (hsim : Sim W S H σ a w) : ∀ (d : Nat) (xs ys : List A), WfL H xs → resolveL s d xs = some ys → CellsRL w ys (encL σ xs)
 | d, [], ys, _, h => by
  have : ys = [] := by cases d <;> simp only [resolveL, Option.some.injEq] at h <;> exact h.symm
  subst this
  rfl
 | 0, _ :: _, ys, _, h => by simp only [resolveL] at h; cases h
 | d + 1, x :: xs, ys, hw, h => by
  simp only [resolveL] at h
  split at h
  ·rename_i y ys' hy hys
   obtain rfl := Option.some.inj h
   exact ⟨_, _, rfl, (resolve_ok hs hsim d x y hw.1 hy).1, resolveL_ok hs hsim d xs ys' hw.2 hys⟩
  ·cases h
end
theorem resolveL_args (hs : Sub s S H) (hsim : Sim W S H σ a w) : ∀ (d : Nat) (xs ys : List A), WfL H xs → resolveL s d xs = some ys → ArgsV w ys (xs.map (val σ))
 | d, [], ys, _, h => by
  have : ys = [] := by cases d <;> simp only [resolveL, Option.some.injEq] at h <;> exact h.symm
  subst this
  rfl
 | 0, _ :: _, ys, _, h => by simp only [resolveL] at h; cases h
 | d + 1, x :: xs, ys, hw, h => by
  simp only [resolveL] at h
  split at h
  ·rename_i y ys' hy hys
   obtain rfl := Option.some.inj h
   obtain ⟨h1, h2⟩ := resolve_ok hs hsim d x y hw.1 hy
   refine ⟨_, _, rfl, ?_, resolveL_args hs hsim d xs ys' hw.2 hys⟩
   unfold ArgV val
   rw [h2]
   cases hx : isAg x
   ·have hl : (enc σ x).length = 1 := by rw [enc_len]; cases x <;> first | rfl | (simp [isAg] at hx)
    match he : enc σ x with
    | [] => rw [he] at hl; cases hl
    | [u] => rw [he] at h1; exact h1
    | _ :: _ :: _ => rw [he] at hl; simp at hl
   ·exact ⟨_, rfl, h1⟩
  ·cases h
end
theorem inst_other {n : Nat} {a : A} (h : ∀ e l, a ≠ .lst e l) : inst n a = (a, [], n) := by cases a <;> first | rfl | exact absurd rfl (h _ _)
theorem instL_spec : ∀ (xs : List A) (n : Nat), ∃ ys h m, instL n xs = (ys, h, m) ∧ n ≤ m ∧
  (∀ b, b < n ∨ m ≤ b → ∀ H : HF, appH H h b = H b) ∧
  ∃ at_ : Nat → Nat, (∀ b, n ≤ b → b < m → ∃ e l, xs[at_ b]? = some (.lst e l) ∧ ∀ H : HF, appH H h b = some (some ⟨true, .arr e l⟩)) ∧
   (∀ b b', n ≤ b → b < m → n ≤ b' → b' < m → at_ b = at_ b' → b = b') ∧
   ys.length = xs.length ∧
   (∀ i a, xs[i]? = some a → (∃ e l b, a = .lst e l ∧ n ≤ b ∧ b < m ∧ at_ b = i ∧ ys[i]? = some (.sl b)) ∨ ((∀ e l, a ≠ .lst e l) ∧ ys[i]? = some a))
 | [], n => ⟨[], [], n, rfl, Nat.le_refl _, fun _ _ _ => rfl, fun _ => 0, fun b h1 h2 => by omega, fun b b' h1 h2 => by omega, rfl, fun i a h => by cases h⟩
 | x :: xs, n => by
  by_cases hx : ∃ e l, x = .lst e l
  ·obtain ⟨e, l, rfl⟩ := hx
   obtain ⟨ys, h, m, he, hle, hout, at_, h1, h2, h3, h4⟩ := instL_spec xs (n + 1)
   refine ⟨.sl n :: ys, [(n, some ⟨true, .arr e l⟩)] ++ h, m, by simp only [instL, inst, he], by omega, fun b hb H => ?_, fun b => if b = n then 0 else at_ b + 1, fun b hb1 hb2 => ?_, fun b b' hb1 hb2 hb3 hb4 hbb => ?_, by simp [h3], fun i a hi => ?_⟩
   ·show setF (appH H h) n _ b = H b
    rw [setF_other _ _ (by omega)]
    exact hout b (by omega) H
   ·by_cases hn : b = n
    ·subst hn
     exact ⟨e, l, by simp, fun H => setF_same _ _ _⟩
    ·obtain ⟨e', l', q1, q2⟩ := h1 b (by omega) hb2
     exact ⟨e', l', by dsimp only; rw [if_neg hn]; simpa using q1, fun H => by show setF (appH H h) n _ b = _; rw [setF_other _ _ hn]; exact q2 H⟩
   ·dsimp only at hbb
    by_cases hn : b = n
    ·by_cases hn' : b' = n
     ·omega
     ·rw [if_pos hn, if_neg hn'] at hbb; omega
    ·by_cases hn' : b' = n
     ·rw [if_neg hn, if_pos hn'] at hbb; omega
     ·rw [if_neg hn, if_neg hn'] at hbb
      exact h2 b b' (by omega) hb2 (by omega) hb4 (by omega)
   ·cases i with
    | zero =>
     simp only [List.getElem?_cons_zero, Option.some.injEq] at hi
     subst hi
     exact .inl ⟨e, l, n, rfl, Nat.le_refl _, by omega, by simp, by simp⟩
    | succ i =>
     simp only [List.getElem?_cons_succ] at hi ⊢
     rcases h4 i a hi with ⟨e', l', b, q1, q2, q3, q4, q5⟩ | q
     ·exact .inl ⟨e', l', b, q1, by omega, q3, by show (if b = n then 0 else at_ b + 1) = i + 1; rw [if_neg (by omega), q4], q5⟩
     ·exact .inr q
  ·have hx' : ∀ e l, x ≠ .lst e l := fun e l he => hx ⟨e, l, he⟩
   obtain ⟨ys, h, m, he, hle, hout, at_, h1, h2, h3, h4⟩ := instL_spec xs n
   refine ⟨x :: ys, [] ++ h, m, by simp only [instL, inst_other hx', he], hle, hout, fun b => at_ b + 1, fun b hb1 hb2 => ?_, fun b b' hb1 hb2 hb3 hb4 hbb => h2 b b' hb1 hb2 hb3 hb4 (Nat.succ.inj hbb), by simp [h3], fun i a hi => ?_⟩
   ·obtain ⟨e', l', q1, q2⟩ := h1 b hb1 hb2
    exact ⟨e', l', by simpa using q1, q2⟩
   ·cases i with
    | zero =>
     simp only [List.getElem?_cons_zero, Option.some.injEq] at hi
     subst hi
     exact .inr ⟨hx', by simp⟩
    | succ i =>
     simp only [List.getElem?_cons_succ] at hi ⊢
     rcases h4 i a hi with ⟨e', l', b, q1, q2, q3, q4, q5⟩ | q
     ·exact .inl ⟨e', l', b, q1, q2, q3, by show at_ b + 1 = i + 1; rw [q4], q5⟩
     ·exact .inr q
theorem Sim.call {W : SW} {S : Nat → SV} {H : HF} {σ : Nat → Value} {a : Act} {w w' : World} (hsim : Sim W S H σ a w) (hb : Below w.heap.size w w') {xs : List A} {vs : List Value} (hr : ResVs w w' xs vs) (n : Nat)
  {ys : List A} {h : List (Nat × Option Blk)} {m : Nat} (hi : instL n xs = (ys, h, m)) (hf : ∀ b, n ≤ b → b < m → H b = none) :
  ∃ σ', Sim W S (appH H h) σ' a w' ∧ vs = ys.map (val σ') ∧ WfL (appH H h) ys := by
 obtain ⟨ys', h', m', he, hle, hout, at_, h1, h2, h3, h4⟩ := instL_spec xs n
 rw [he] at hi
 simp only [Prod.mk.injEq] at hi
 obtain ⟨rfl, rfl, rfl⟩ := hi
 obtain ⟨hlen, hel, hsep⟩ := hr
 let σ' : Nat → Value := fun b => if n ≤ b ∧ b < m' then vs.getD (at_ b) undef else σ b
 have hin : ∀ b, n ≤ b → b < m' → ∃ v, vs[at_ b]? = some v ∧ σ' b = v ∧ ∃ e l, xs[at_ b]? = some (.lst e l) ∧ appH H h' b = some (some ⟨true, .arr e l⟩) ∧ ResV1 w w' (Ow vs) (.lst e l) v := by
  intro b hb1 hb2
  obtain ⟨e, l, q1, q2⟩ := h1 b hb1 hb2
  have hlt : at_ b < vs.length := by rw [← hlen]; exact (List.getElem?_eq_some_iff.1 q1).1
  refine ⟨vs[at_ b], List.getElem?_eq_getElem hlt, ?_, e, l, q1, q2 H, hel _ _ _ q1 (List.getElem?_eq_getElem hlt)⟩
  show (if _ then _ else _) = _
  rw [if_pos ⟨hb1, hb2⟩, List.getD_eq_getElem?_getD, List.getElem?_eq_getElem hlt]
  rfl
 have hold : ∀ b, ¬ (n ≤ b ∧ b < m') → σ' b = σ b ∧ appH H h' b = H b := fun b hb => ⟨if_neg hb, hout b (by omega) H⟩
 have hsome : ∀ b, (H b).isSome = true → ¬ (n ≤ b ∧ b < m') := fun b hb hbb => by rw [hf b hbb.1 hbb.2] at hb; cases hb
 have hsh : Shape H (appH H h') := fun b hb => by
  rw [(hold b (hsome b hb)).2]
  exact ⟨hb, fun blk' e => ⟨blk', e, fun _ _ hd => hd⟩⟩
 have hgnew : ∀ b g, n ≤ b → b < m' → ownG (σ' b) = some g → w.heap.size ≤ g ∧ g < w'.heap.size ∧ Ow vs g := by
  intro b g hb1 hb2 hg
  obtain ⟨v, q1, q2, e, l, q3, q4, xs', q5, q6⟩ := hin b hb1 hb2
  rw [q2] at hg
  refine ⟨?_, ?_, ⟨v, List.mem_of_getElem? q1, hg⟩⟩
  all_goals
   rcases q6 with ⟨_, ao, q6⟩ | ⟨g', cap, cur, ty, q6, q7, q8, q9, _⟩
   ·rw [q6] at hg; cases ao <;> simp [ownG] at hg
   ·rw [q6] at hg
    simp only [ownG] at hg
    split at hg
    ·cases hg
    ·obtain rfl := Option.some.inj hg
     first | exact q7 | exact (Array.getElem?_eq_some_iff.1 q9).1
 have hOw : ∀ g, Owned (appH H h') σ' g → (Owned H σ g) ∨ (w.heap.size ≤ g ∧ Ow vs g) := by
  rintro g ⟨b, c, q1, q2⟩
  by_cases hb' : n ≤ b ∧ b < m'
  ·obtain ⟨r1, _, r3⟩ := hgnew b g hb'.1 hb'.2 q2
   exact .inr ⟨r1, r3⟩
  ·rw [(hold b hb').1] at q2
   rw [(hold b hb').2] at q1
   exact .inl ⟨b, c, q1, q2⟩
 have hσ : ∀ b, (H b).isSome = true → σ' b = σ b := fun b hb' => (hold b (hsome b hb')).1
 refine ⟨σ', hsim.upd hb.os hb.tape hb.output hb.size (fun b => ?_) hσ hsh (fun _ => False) (fun g hg _ => hb.block g hg) (fun _ hff => hff.elim) (fun g hg ho => ?_) (fun b blk hbb => ?_) (fun b b' c c' q1 q2 hn k hk => ?_), ?_, ?_⟩
 ·by_cases hb' : n ≤ b ∧ b < m'
  ·obtain ⟨v, q1, q2, e, l, q3, q4, xs', q5, q6⟩ := hin b hb'.1 hb'.2
   rw [q2]
   rcases q6 with ⟨_, ao, q6⟩ | ⟨g', cap, cur, ty, q6, _⟩ <;> rw [q6] <;> rfl
  ·rw [(hold b hb').1]; exact hsim.one b
 ·rcases hOw g ho with h5 | ⟨h5, _⟩
  ·exact h5
  ·omega
 ·by_cases hb' : n ≤ b ∧ b < m'
  ·right
   obtain ⟨v, q1, q2, e, l, q3, q4, xs', q5, q6⟩ := hin b hb'.1 hb'.2
   rw [q4] at hbb
   rw [q2, ← Option.some.inj (Option.some.inj hbb)]
   refine ⟨xs', q5.imp fun k l' v' hv' => ?_, ?_⟩
   ·obtain ⟨ao, cap, r1, r2, r3⟩ := hv'
    refine ⟨ao, cap, r1, r2, fun hne => ?_⟩
    obtain ⟨g, o, t1, t2, t3, t4, t5⟩ := r3 hne
    refine ⟨g, o, t1, ?_, t3, fun ho => ?_, t5⟩
    ·exact Nat.le_trans W.hlo (Nat.le_trans hsim.bel.size t2)
    ·rcases hOw g ho with h5 | ⟨_, h5⟩
     ·have := (hsim.owned_lt h5).1; omega
     ·exact t4 h5
   ·rcases q6 with q6 | ⟨g', cap, cur, ty, r1, r2, r3, r4, r5⟩
    ·exact .inl q6
    ·exact .inr ⟨g', cap, cur, ty, r1, W.hM _ (Nat.le_trans hsim.bel.size r2), r3, r4, r5⟩
  ·left
   rw [(hold b hb').2] at hbb
   obtain ⟨own, con⟩ := blk
   refine ⟨hbb, fun ho g hg => ⟨fun hff => hff, ?_⟩⟩
   subst ho
   exact (hsim.own_lt hbb hg).1
 ·by_cases hb1 : n ≤ b ∧ b < m'
  ·by_cases hb2 : n ≤ b' ∧ b' < m'
   ·obtain ⟨v, r1, r2, _⟩ := hin b hb1.1 hb1.2
    obtain ⟨v', t1, t2, _⟩ := hin b' hb2.1 hb2.2
    rw [r2] at hk
    rw [t2]
    exact hsep _ _ v v' (fun e => hn (h2 b b' hb1.1 hb1.2 hb2.1 hb2.2 e)) r1 t1 k hk
   ·intro hk2
    rw [(hold b' hb2).1] at hk2
    rw [(hold b' hb2).2] at q2
    have r1 := (hgnew b k hb1.1 hb1.2 hk).1
    have r2 := (hsim.own_lt q2 hk2).1
    omega
  ·rw [(hold b hb1).1] at hk
   rw [(hold b hb1).2] at q1
   by_cases hb2 : n ≤ b' ∧ b' < m'
   ·intro hk2
    have r1 := (hgnew b' k hb2.1 hb2.2 hk2).1
    have r2 := (hsim.own_lt q1 hk).1
    omega
   ·rw [(hold b' hb2).1]
    rw [(hold b' hb2).2] at q2
    exact hsim.sep b b' c c' q1 q2 hn k hk
 ·apply List.ext_getElem?
  intro i
  rw [List.getElem?_map]
  cases hx : xs[i]? with
  | none =>
   have : ys'[i]? = none := by rw [List.getElem?_eq_none_iff] at hx ⊢; omega
   rw [this]
   rw [List.getElem?_eq_none_iff] at hx
   simp only [Option.map_none, List.getElem?_eq_none_iff]
   omega
  | some x =>
   have hlt : i < vs.length := by rw [← hlen]; exact (List.getElem?_eq_some_iff.1 hx).1
   rcases h4 i x hx with ⟨e, l, b, q1, q2, q3, q4, q5⟩ | ⟨q1, q2⟩
   ·rw [q5]
    obtain ⟨v, r1, r2, _⟩ := hin b q2 q3
    rw [q4] at r1
    rw [r1]
    simp only [Option.map_some, val_sl, r2]
   ·rw [q2, List.getElem?_eq_getElem hlt]
    have := hel i x _ hx (List.getElem?_eq_getElem hlt)
    have hv : (∀ H, WfA H x) ∧ vs[i] = val (fun _ => undef) x := by
     cases x <;> first | exact this | exact absurd rfl (q1 _ _)
    rw [hv.2, zero_val' hv.1 σ']
    rfl
 ·refine WfL_of fun y hy => ?_
  obtain ⟨i, hi⟩ := List.mem_iff_getElem?.1 hy
  have hlt : i < xs.length := by rw [← h3]; exact (List.getElem?_eq_some_iff.1 hi).1
  rcases h4 i _ (List.getElem?_eq_getElem hlt) with ⟨e, l, b, q1, q2, q3, q4, q5⟩ | ⟨q1, q2⟩
  ·rw [q5] at hi
   obtain rfl := Option.some.inj hi
   obtain ⟨e', l', _, r2⟩ := h1 b q2 q3
   show (appH H h' b).isSome = true
   rw [r2 H]; rfl
  ·rw [q2] at hi
   obtain rfl := Option.some.inj hi
   have hltv : i < vs.length := by omega
   have := hel i _ _ (List.getElem?_eq_getElem hlt) (List.getElem?_eq_getElem hltv)
   have hv : (∀ H, WfA H xs[i]) := by
    revert this q1
    generalize xs[i] = x
    intro q1 this
    cases x <;> first | exact this.1 | exact absurd rfl (q1 _ _)
   exact hv _
theorem inst_mem : ∀ (n : Nat) (a : A) {x : A} {h : List (Nat × Option Blk)} {m : Nat}, inst n a = (x, h, m) → n ≤ m ∧ ∀ b y, (b, y) ∈ h → n ≤ b ∧ b < m := by
 intro n a x h m hi
 by_cases ha : ∃ e l, a = .lst e l
 ·obtain ⟨e, l, rfl⟩ := ha
  simp only [inst, Prod.mk.injEq] at hi
  obtain ⟨rfl, rfl, rfl⟩ := hi
  refine ⟨by omega, fun b y hb => ?_⟩
  simp only [List.mem_singleton, Prod.mk.injEq] at hb
  omega
 ·rw [inst_other (fun e l he => ha ⟨e, l, he⟩)] at hi
  simp only [Prod.mk.injEq] at hi
  obtain ⟨rfl, rfl, rfl⟩ := hi
  exact ⟨Nat.le_refl _, fun b y hb => by cases hb⟩
theorem instL_mem : ∀ (xs : List A) (n : Nat) {ys : List A} {h : List (Nat × Option Blk)} {m : Nat}, instL n xs = (ys, h, m) → n ≤ m ∧ ∀ b y, (b, y) ∈ h → n ≤ b ∧ b < m
 | [], n, ys, h, m, hi => by
  simp only [instL, Prod.mk.injEq] at hi
  obtain ⟨rfl, rfl, rfl⟩ := hi
  exact ⟨Nat.le_refl _, fun b y hb => by cases hb⟩
 | x :: xs, n, ys, h, m, hi => by
  simp only [instL] at hi
  generalize h1 : inst n x = r1 at hi
  obtain ⟨y1, hh1, m1⟩ := r1
  generalize h2 : instL m1 xs = r2 at hi
  obtain ⟨y2, hh2, m2⟩ := r2
  dsimp only at hi
  simp only [Prod.mk.injEq] at hi
  obtain ⟨rfl, rfl, rfl⟩ := hi
  obtain ⟨q1, q2⟩ := inst_mem n x h1
  obtain ⟨q3, q4⟩ := instL_mem xs m1 h2
  refine ⟨by omega, fun b y hb => ?_⟩
  rcases List.mem_append.1 hb with hb | hb
  ·have := q2 b y hb; omega
  ·have := q4 b y hb; omega
theorem instR_eff {s : AS} {d : Option (Nat × SV)} {res : Res} {sv : SV} {h : List (Nat × Option Blk)} {m : Nat} (hi : instR s.n res = (sv, h, m)) : EffOK s ⟨d, h, m⟩ := by
 have : s.n ≤ m ∧ ∀ b y, (b, y) ∈ h → s.n ≤ b ∧ b < m := by
  cases res with
  | unit =>
   simp only [instR, Prod.mk.injEq] at hi
   obtain ⟨rfl, rfl, rfl⟩ := hi
   exact ⟨Nat.le_refl _, fun b y hb => by cases hb⟩
  | one a =>
   simp only [instR] at hi
   generalize h1 : inst s.n a = r1 at hi
   obtain ⟨y1, hh1, m1⟩ := r1
   simp only [Prod.mk.injEq] at hi
   obtain ⟨rfl, rfl, rfl⟩ := hi
   exact inst_mem _ _ h1
  | tup xs =>
   simp only [instR] at hi
   generalize h1 : instL s.n xs = r1 at hi
   obtain ⟨y1, hh1, m1⟩ := r1
   simp only [Prod.mk.injEq] at hi
   obtain ⟨rfl, rfl, rfl⟩ := hi
   exact instL_mem _ _ h1
 exact ⟨this.1, fun b x hb => .inl (this.2 b x hb)⟩
section
variable {R : Type} {W : SW} {X : Ctx} {s : AS} {o : Oper} {K : Eff → Option R} {r : R}
theorem aCallN_ok (hX : CtxW W X) (hd : ∀ i, o.dst = some i → i < W.N) {f : Operand} {ts : Array TypeId} {xs : Array Operand} (ho : o.op = .call { callee := .value f, args := xs, argTypes := ts })
  {g : Nat} {cs as : List A} (hf : opA X.T s 0 f = some (.clo g cs)) (has : opsA X.T s ts.toList xs.toList = some as) (h : aCallN X s o g as cs K = some r) : ∃ e, K e = some r ∧ OpOK W o s e := by
 unfold aCallN at h
 ·split at h
  ·rename_i rs hrs
   generalize hphi : X.Φ g rs = ph at h
   obtain ⟨α, c, res⟩ := ph
   dsimp only at h
   cases c with
   | none => cases h
   | some rv =>
    dsimp only at h
    have hc : ∀ (z : ACall), X.Φ g rs = z → ∀ rv, z.c = some rv → ∃ rv', (X.Φ g rs).c = some rv' ∧ (X.Φ g rs).res rv' = z.res rv := by
     rintro z rfl rv hz; exact ⟨rv, hz, rfl⟩
    obtain ⟨rv', hc1, hc2⟩ := hc _ hphi rv rfl
    obtain ⟨hent, hsnd⟩ := hX.fn g rs rv' hc1
    dsimp only at hc2
    generalize hin : instR s.n (res rv) = ir at h
    obtain ⟨sv, hh, m⟩ := ir
    dsimp only at h
    refine ⟨_, h, instR_eff hin, ?_⟩
    intro S H σ a w hs hfr hsim next Q hnx
    obtain ⟨h1, h2⟩ := opA_val hs hsim hf
    obtain ⟨h3, h4⟩ := opsA_vals hs hsim has
    have hargs := resolveL_args hs hsim 16 (as ++ cs) rs (WfL_append h4 h2.1) hrs
    have hrun : ∃ args : Array Value, args = ((as ++ cs).map (val σ)).toArray ∧ (execOp a.eval o).run W.P w = .ok (.enter g args) w := by
     refine ⟨_, rfl, ?_⟩
     have h5 : encL σ cs = cs.map (val σ) := encL_vals (H := H) σ cs fun x hx => by simpa using List.all_eq_true.1 h2.2 x hx
     have h6 : xs.map a.eval = (as.map (val σ)).toArray := by
      apply Array.toList_inj.1
      rw [Array.toList_map, h3]
     have h7 : a.eval f = .func (.func g) #[] ((cs.map (val σ)).toArray) := by rw [h1, ← h5]; rfl
     have h8 := hent (#[] ++ (as.map (val σ)).toArray ++ (cs.map (val σ)).toArray) w
     simp only [execOp, ho, Go.resolve, h6, h7, Deferred.ofValue, invoke, Sem.run_bind, Sem.run_pure, Result.andThen_ok, h8]
     congr 2
     simp
    obtain ⟨args, rfl, hrun⟩ := hrun
    unfold Oper.wp
    rw [hrun]
    show Calls W.P g _ w _
    refine (hsnd rs rv' hc1 w _ hsim.jj hargs).mono fun e w' hpost => ?_
    obtain ⟨v, rfl, hrr, hbel⟩ := hpost
    rw [hc2] at hrr
    show next (a.put o.dst v) w'
    have fin : ∃ σ', Sim W S (appH H hh) σ' a w' ∧ SlotR (appH H hh) σ' sv v := by
     revert hrr hin hfr
     cases res rv with
     | unit =>
      intro hin hfr hrr
      simp only [instR, Prod.mk.injEq] at hin
      obtain ⟨rfl, rfl, rfl⟩ := hin
      obtain ⟨σ', q1, q2, q3⟩ := hsim.call hbel (xs := []) (vs := []) ⟨rfl, fun i a v h => by simp at h, fun i j u v _ h => by simp at h⟩ s.n (ys := []) (h := []) (m := s.n) rfl (fun b h1 h2 => by omega)
      exact ⟨σ', q1, hrr, trivial⟩
     | one x =>
      intro hin hfr hrr
      have hil : ∃ y hh', instL s.n [x] = ([y], hh', m) ∧ sv = .a y ∧ appH H hh' = appH H hh := by
       simp only [instR] at hin
       generalize hie : inst s.n x = ie at hin
       obtain ⟨y, h0, m0⟩ := ie
       simp only [Prod.mk.injEq] at hin
       obtain ⟨rfl, rfl, rfl⟩ := hin
       exact ⟨y, h0 ++ [], by simp only [instL, hie], rfl, by rw [List.append_nil]⟩
      obtain ⟨y, hh', q0, rfl, q1⟩ := hil
      obtain ⟨σ', q2, q3, q4⟩ := hsim.call hbel hrr s.n q0 (fun b h1 h2 => hfr b h1 h2)
      rw [q1] at q2 q4
      refine ⟨σ', q2, ?_, q4.1⟩
      simpa using q3
     | tup xs =>
      intro hin hfr hrr
      simp only [instR] at hin
      generalize hie : instL s.n xs = ie at hin
      obtain ⟨ys, h0, m0⟩ := ie
      simp only [Prod.mk.injEq] at hin
      obtain ⟨rfl, rfl, rfl⟩ := hin
      obtain ⟨vs, rfl, hvs⟩ := hrr
      obtain ⟨σ', q2, q3, q4⟩ := hsim.call hbel hvs s.n hie (fun b h1 h2 => hfr b h1 h2)
      exact ⟨σ', q2, by rw [q3], q4⟩
    obtain ⟨σ', q1, q2⟩ := fin
    exact hnx σ' _ _ (q1.put hd q2)
  ·cases h
end
end Go.RR
