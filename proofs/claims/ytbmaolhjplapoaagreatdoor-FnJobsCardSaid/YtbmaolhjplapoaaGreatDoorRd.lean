/- The simulation: when a machine's frame and world stand for an abstract state; what keeps it. No condition. -/
import Derived.Test.YtbmaolhjplapoaaGreatDoorRc
import Derived.Test.YtbmaolhjplapoaaGreatDoorJt
set_option linter.unusedVariables false
set_option linter.unusedSimpArgs false
namespace Go.RR
open Go Go.RowKit
structure SW where
 P : Program
 W0 : World
 M : Nat → Prop
 lo : Nat
 N : Nat
 hlo : lo ≤ W0.heap.size
 hM : ∀ g, W0.heap.size ≤ g → M g
 gl : List Value
 hJ : JJ P W0
 hT : ∀ g, M g → ¬ TabBlk P g
 hL : ∀ g, M g → lo ≤ g
abbrev HF := Nat → Option (Option Blk)
mutual
def WfA (H : HF) : A → Prop
 | .v x => x.oneCell' = true
 | .rc fs => WfL H fs
 | .fa .. | .fb .. | .fa2 .. | .nil _ => True
 | .sl b => (H b).isSome = true
 | .ptr b p off => (H b).isSome = true ∧ ∀ blk, H b = some (some blk) → offC blk.con p = some off
 | .clo _ cs => WfL H cs ∧ (cs.all fun c => !isAg c) = true
 | .lst .. | .ref _ => False
def WfL (H : HF) : List A → Prop
 | [] => True
 | a :: as => WfA H a ∧ WfL H as
end
def WfC (H : HF) : Con → Prop
 | .box a => WfA H a
 | .arr _ _ => True
theorem WfL_mem {H : HF} : ∀ {as : List A}, WfL H as → ∀ a ∈ as, WfA H a
 | [], _, _, h => by cases h
 | x :: xs, h, a, ha => by
  rcases List.mem_cons.1 ha with rfl | ha
  ·exact h.1
  ·exact WfL_mem h.2 a ha
theorem WfL_of {H : HF} : ∀ {as : List A}, (∀ a ∈ as, WfA H a) → WfL H as
 | [], _ => trivial
 | x :: xs, h => ⟨h x (by simp), WfL_of fun a ha => h a (by simp [ha])⟩
theorem WfL_append {H : HF} {as bs : List A} (h : WfL H as) (h' : WfL H bs) : WfL H (as ++ bs) :=
 WfL_of fun a ha => (List.mem_append.1 ha).elim (WfL_mem h a) (WfL_mem h' a)
def Shape (H H' : HF) : Prop := ∀ b, (H b).isSome = true → (H' b).isSome = true ∧ ∀ blk', H' b = some (some blk') → ∃ blk, H b = some (some blk) ∧ ∀ q d, offC blk.con q = some d → offC blk'.con q = some d
mutual
theorem WfA_mono {H H' : HF} (hs : Shape H H') : ∀ a : A, WfA H a → WfA H' a
 | .v x, h => h
 | .rc fs, h => WfL_mono hs fs h
 | .fa .., h | .fb .., h | .fa2 .., h | .nil _, h => trivial
 | .sl b, h => (hs b h).1
 | .ptr b p off, h => ⟨(hs b h.1).1, fun blk' hb' => by
   obtain ⟨blk, hb, hq⟩ := (hs b h.1).2 blk' hb'
   exact hq p _ (h.2 blk hb)⟩
 | .clo _ cs, h => ⟨WfL_mono hs cs h.1, h.2⟩
 | .lst .., h => h
 | .ref _, h => h
theorem WfL_mono {H H' : HF} (hs : Shape H H') : ∀ as : List A, WfL H as → WfL H' as
 | [], _ => trivial
 | a :: as, h => ⟨WfA_mono hs a h.1, WfL_mono hs as h.2⟩
end
mutual
theorem enc_congr {H : HF} {σ τ : Nat → Value} (hσ : ∀ b, (H b).isSome = true → τ b = σ b) : ∀ a : A, WfA H a → enc τ a = enc σ a
 | .v x, h => rfl
 | .rc fs, h => by simp only [enc]; exact encL_congr hσ fs h
 | .fa .., h | .fb .., h | .fa2 .., h | .nil _, h => rfl
 | .sl b, h => by simp only [enc, hσ b h]
 | .ptr b p off, h => by simp only [enc, hσ b h.1]
 | .clo _ cs, h => by simp only [enc, encL_congr hσ cs h.1]
 | .lst .., h => rfl
 | .ref _, h => rfl
theorem encL_congr {H : HF} {σ τ : Nat → Value} (hσ : ∀ b, (H b).isSome = true → τ b = σ b) : ∀ as : List A, WfL H as → encL τ as = encL σ as
 | [], _ => rfl
 | a :: as, h => by simp only [encL, enc_congr hσ a h.1, encL_congr hσ as h.2]
end
theorem val_congr {H : HF} {σ τ : Nat → Value} (hσ : ∀ b, (H b).isSome = true → τ b = σ b) {a : A} (h : WfA H a) : val τ a = val σ a := by
 unfold val
 rw [enc_congr hσ a h]
theorem ptrv_one (v : Value) (off : Nat) : (ptrv v off).oneCell' = true := by unfold ptrv; split <;> rfl
mutual
theorem enc_one {H : HF} {σ : Nat → Value} (hσ : ∀ b, (σ b).oneCell' = true) : ∀ a : A, WfA H a → ∀ u ∈ enc σ a, u.oneCell' = true
 | .v x, h, u, hu => by simp only [enc, List.mem_singleton] at hu; rw [hu]; exact h
 | .rc fs, h, u, hu => by simp only [enc] at hu; exact encL_one hσ fs h u hu
 | .fa n k f, h, u, hu => by simp only [enc, List.mem_map] at hu; obtain ⟨_, _, rfl⟩ := hu; rfl
 | .fb n f, h, u, hu => by simp only [enc, List.mem_map] at hu; obtain ⟨_, _, rfl⟩ := hu; rfl
 | .fa2 n m k f, h, u, hu => by simp only [enc, List.mem_map] at hu; obtain ⟨_, _, rfl⟩ := hu; rfl
 | .nil _, h, u, hu => by simp only [enc, List.mem_singleton] at hu; rw [hu]; rfl
 | .sl b, h, u, hu => by simp only [enc, List.mem_singleton] at hu; rw [hu]; exact hσ b
 | .ptr b p off, h, u, hu => by simp only [enc, List.mem_singleton] at hu; rw [hu]; exact ptrv_one _ _
 | .clo _ cs, h, u, hu => by simp only [enc, List.mem_singleton] at hu; rw [hu]; rfl
 | .lst .., h, u, hu => h.elim
 | .ref _, h, u, hu => h.elim
theorem encL_one {H : HF} {σ : Nat → Value} (hσ : ∀ b, (σ b).oneCell' = true) : ∀ as : List A, WfL H as → ∀ u ∈ encL σ as, u.oneCell' = true
 | [], _, u, hu => by simp [encL] at hu
 | a :: as, h, u, hu => by
  simp only [encL, List.mem_append] at hu
  exact hu.elim (enc_one hσ a h.1 u) (encL_one hσ as h.2 u)
end
theorem val_cells {H : HF} {σ : Nat → Value} (hσ : ∀ b, (σ b).oneCell' = true) {a : A} (h : WfA H a) : (val σ a).cells = (enc σ a).toArray := by
 unfold val
 cases ha : isAg a
 ·have hl : (enc σ a).length = 1 := by rw [enc_len]; cases a <;> first | rfl | (simp [isAg] at ha)
  match he : enc σ a with
  | [] => rw [he] at hl; cases hl
  | [u] =>
   have := enc_one hσ a h u (by rw [he]; simp)
   simp only [List.headD]
   cases u <;> first | rfl | (simp [Value.oneCell'] at this)
  | _ :: _ :: _ => rw [he] at hl; simp at hl
 ·rfl
def ownG : Value → Option Nat
 | .pointer (some a) => some a.block
 | .slice (some a) _ cap => if cap = 0 then none else some a.block
 | _ => none
def Owned (H : HF) (σ : Nat → Value) (k : Nat) : Prop := ∃ b c, H b = some (some ⟨true, c⟩) ∧ ownG (σ b) = some k
def Lies (w : World) (g o : Nat) (cs : List Value) : Prop := ∀ j v, cs[j]? = some v → w.cell? ⟨g, o + j, none⟩ = some v
def Innr (w : World) (O : Nat → Prop) (lo : Nat) : Inn := fun k l v =>
 ∃ ao cap, v = .slice ao l.length cap ∧ l.length ≤ cap ∧ (l ≠ [] → ∃ g o, ao = some ⟨g, o, none⟩ ∧ lo ≤ g ∧ g < w.heap.size ∧ ¬ O g ∧ Lies w g o (l.map (Value.int k)))
def OwnArr (W : SW) (w : World) (v : Value) (e n : Nat) (xs : List Value) : Prop :=
 (n = 0 ∧ ∃ ao, v = .slice ao 0 0) ∨
 ∃ g cap cur ty, v = .slice (some ⟨g, 0, none⟩) n cap ∧ W.M g ∧ 0 < cap ∧ w.heap[g]? = some (.cells cur ty (0, 0)) ∧ n ≤ cap ∧ cap ≤ maxLen ∧ cur.size = cap * e ∧ cur.toList.take (n * e) = xs
def RepB (W : SW) (H : HF) (σ : Nat → Value) (w : World) (v : Value) : Blk → Prop
 | ⟨true, .box a⟩ => WfA H a ∧ ∃ g ty, v = .pointer (some ⟨g, 0, none⟩) ∧ W.M g ∧ w.heap[g]? = some (.cells (enc σ a).toArray ty (0, 0))
 | ⟨false, .box a⟩ => WfA H a ∧ ∃ g o, v = .pointer (some ⟨g, o, none⟩) ∧ g < w.heap.size ∧ ¬ Owned H σ g ∧ Lies w g o (enc σ a)
 | ⟨true, .arr e l⟩ => ∃ xs, RowsC (Innr w (Owned H σ) W.lo) e l xs ∧ OwnArr W w v e.sz l.length xs
 | ⟨false, .arr e l⟩ => ∃ xs ao cap, RowsC (Innr w (Owned H σ) 0) e l xs ∧ v = .slice ao l.length cap ∧ l.length ≤ cap ∧ (l ≠ [] → ∃ g o, ao = some ⟨g, o, none⟩ ∧ g < w.heap.size ∧ ¬ Owned H σ g ∧ Lies w g o xs)
structure Bel (W : SW) (w : World) : Prop where
 os : w.os = W.W0.os
 tape : w.tape = W.W0.tape
 output : w.output = W.W0.output
 size : W.W0.heap.size ≤ w.heap.size
 block : ∀ k, k < W.W0.heap.size → ¬ W.M k → w.heap[k]? = W.W0.heap[k]?
def SlotR (H : HF) (σ : Nat → Value) : SV → Value → Prop
 | .none, _ => True
 | .un, v => v = undef
 | .a x, v => v = val σ x ∧ WfA H x
 | .tup xs, v => v = .tuple (xs.map (val σ)).toArray ∧ WfL H xs
structure Sim (W : SW) (S : Nat → SV) (H : HF) (σ : Nat → Value) (a : Act) (w : World) : Prop where
 bel : Bel W w
 defers : a.defers = []
 size : a.tmps.size = W.N
 one : ∀ b, (σ b).oneCell' = true
 slot : ∀ i, SlotR H σ (S i) (a.tmps.getD i undef)
 blk : ∀ b blk, H b = some (some blk) → RepB W H σ w (σ b) blk
 sep : ∀ b b' c c', H b = some (some ⟨true, c⟩) → H b' = some (some ⟨true, c'⟩) → b ≠ b' → ∀ k, ownG (σ b) = some k → ownG (σ b') ≠ some k
 gh : ∀ i v, W.gl[i]? = some v → (H i).isSome = true ∧ σ i = v
theorem Sim.jj {W : SW} {S : Nat → SV} {H : HF} {σ : Nat → Value} {a : Act} {w : World} (h : Sim W S H σ a w) : JJ W.P w :=
 JJ_keep W.hJ h.bel.size fun g hg => h.bel.block g (JJ_lt W.hJ hg) fun hm => W.hT g hm hg
theorem Lies.keep {w w' : World} {g o : Nat} {cs : List Value} (h : Lies w g o cs) (hg : w'.heap[g]? = w.heap[g]?) : Lies w' g o cs := fun j v hv => by
 rw [World.cell?_of_block (w := w) hg]
 exact h j v hv
theorem Innr.keep {w w' : World} {O O' : Nat → Prop} {lo : Nat} (hs : w.heap.size ≤ w'.heap.size) (hk : ∀ g, g < w.heap.size → ¬ O g → w'.heap[g]? = w.heap[g]? ∧ ¬ O' g) {k : IntKind} {l : List Int} {v : Value} (h : Innr w O lo k l v) : Innr w' O' lo k l v := by
 obtain ⟨ao, cap, h1, h2, h3⟩ := h
 refine ⟨ao, cap, h1, h2, fun hl => ?_⟩
 obtain ⟨g, o, e, hlo, hg, hO, hr⟩ := h3 hl
 exact ⟨g, o, e, hlo, by omega, (hk g hg hO).2, hr.keep (hk g hg hO).1⟩
theorem RepB.keep {W : SW} {H H' : HF} {σ σ' : Nat → Value} {w w' : World} {v : Value} {blk : Blk} (h : RepB W H σ w v blk)
  (hσ : ∀ b, (H b).isSome = true → σ' b = σ b) (hsh : Shape H H') (hs : w.heap.size ≤ w'.heap.size)
  (hro : ∀ g, g < w.heap.size → ¬ Owned H σ g → w'.heap[g]? = w.heap[g]? ∧ ¬ Owned H' σ' g)
  (hown : blk.own = true → ∀ g, ownG v = some g → w'.heap[g]? = w.heap[g]?) : RepB W H' σ' w' v blk := by
 obtain ⟨own, con⟩ := blk
 cases own <;> cases con
 ·obtain ⟨hw, g, o, rfl, hg, hO, hl⟩ := h
  rw [← enc_congr hσ _ hw] at hl
  exact ⟨WfA_mono hsh _ hw, g, o, rfl, by omega, (hro g hg hO).2, hl.keep (hro g hg hO).1⟩
 ·obtain ⟨xs, ao, cap, hr, rfl, hc, hl⟩ := h
  refine ⟨xs, ao, cap, hr.imp fun k l v hv => hv.keep hs hro, rfl, hc, fun hne => ?_⟩
  obtain ⟨g, o, e, hg, hO, hl⟩ := hl hne
  exact ⟨g, o, e, by omega, (hro g hg hO).2, hl.keep (hro g hg hO).1⟩
 ·obtain ⟨hw, g, ty, rfl, hM, hg⟩ := h
  rw [← enc_congr hσ _ hw] at hg
  exact ⟨WfA_mono hsh _ hw, g, ty, rfl, hM, by rw [hown rfl g rfl]; exact hg⟩
 ·obtain ⟨xs, hr, ho⟩ := h
  refine ⟨xs, hr.imp fun k l v hv => hv.keep hs hro, ?_⟩
  rcases ho with ho | ⟨g, cap, cur, ty, rfl, hM, hc, hg, r1, r2, r3, r4⟩
  ·exact .inl ho
  ·exact .inr ⟨g, cap, cur, ty, rfl, hM, hc, by rw [hown rfl g (by simp [ownG]; omega)]; exact hg, r1, r2, r3, r4⟩
theorem Sim.upd {W : SW} {S : Nat → SV} {H H' : HF} {σ σ' : Nat → Value} {a : Act} {w w' : World} (h : Sim W S H σ a w)
  (hos : w'.os = w.os) (htape : w'.tape = w.tape) (hout : w'.output = w.output) (hs : w.heap.size ≤ w'.heap.size)
  (hone : ∀ b, (σ' b).oneCell' = true) (hσ : ∀ b, (H b).isSome = true → σ' b = σ b) (hsh : Shape H H')
  (T : Nat → Prop) (hk : ∀ g, g < w.heap.size → ¬ T g → w'.heap[g]? = w.heap[g]?) (hT : ∀ g, T g → Owned H σ g ∧ W.M g)
  (hO : ∀ g, g < w.heap.size → Owned H' σ' g → Owned H σ g)
  (hb : ∀ b blk, H' b = some (some blk) → (H b = some (some blk) ∧ (blk.own = true → ∀ g, ownG (σ b) = some g → ¬ T g ∧ g < w.heap.size)) ∨ RepB W H' σ' w' (σ' b) blk)
  (hsep : ∀ b b' c c', H' b = some (some ⟨true, c⟩) → H' b' = some (some ⟨true, c'⟩) → b ≠ b' → ∀ k, ownG (σ' b) = some k → ownG (σ' b') ≠ some k) :
  Sim W S H' σ' a w' := by
 refine ⟨⟨hos.trans h.bel.os, htape.trans h.bel.tape, hout.trans h.bel.output, Nat.le_trans h.bel.size hs, fun k hk0 hM => ?_⟩, h.defers, h.size, hone, fun i => ?_, fun b blk hbb => ?_, hsep, fun i v hv => ⟨(hsh i (h.gh i v hv).1).1, (hσ i (h.gh i v hv).1).trans (h.gh i v hv).2⟩⟩
 ·rw [hk k (Nat.lt_of_lt_of_le hk0 h.bel.size) (fun ht => hM (hT k ht).2)]
  exact h.bel.block k hk0 hM
 ·have := h.slot i
  cases hS : S i with
  | none => trivial
  | un => rw [hS] at this; exact this
  | a x =>
   rw [hS] at this
   exact ⟨by rw [this.1, val_congr hσ this.2], WfA_mono hsh _ this.2⟩
  | tup xs =>
   rw [hS] at this
   refine ⟨?_, WfL_mono hsh _ this.2⟩
   rw [this.1]
   congr 2
   apply List.map_congr_left
   intro x hx
   exact (val_congr hσ (WfL_mem this.2 x hx)).symm
 ·rcases hb b blk hbb with ⟨h1, h2⟩ | h1
  ·rw [hσ b (by rw [h1]; rfl)]
   refine (h.blk b blk h1).keep hσ hsh hs (fun g hg hn => ⟨hk g hg (fun ht => hn (hT g ht).1), fun ho => hn (hO g hg ho)⟩) (fun ho g hg => ?_)
   obtain ⟨h3, h4⟩ := h2 ho g hg
   exact hk g h4 h3
  ·exact h1
theorem Sim.own_lt {W : SW} {S : Nat → SV} {H : HF} {σ : Nat → Value} {a : Act} {w : World} (h : Sim W S H σ a w) {b : Nat} {c : Con} (hb : H b = some (some ⟨true, c⟩)) {g : Nat} (hg : ownG (σ b) = some g) : g < w.heap.size ∧ W.M g := by
 have := h.blk b _ hb
 cases c with
 | box a =>
  obtain ⟨_, g', ty, e, hM, hh⟩ := this
  rw [e] at hg
  obtain rfl := Option.some.inj hg
  exact ⟨(Array.getElem?_eq_some_iff.1 hh).1, hM⟩
 | arr e l =>
  obtain ⟨xs, _, ⟨_, ao, e⟩ | ⟨g', cap, cur, ty, e, hM, hc, hh, _⟩⟩ := this
  ·rw [e] at hg
   cases ao <;> simp [ownG] at hg
  ·rw [e] at hg
   simp only [ownG] at hg
   split at hg
   ·cases hg
   ·obtain rfl := Option.some.inj hg
    exact ⟨(Array.getElem?_eq_some_iff.1 hh).1, hM⟩
theorem Sim.owned_lt {W : SW} {S : Nat → SV} {H : HF} {σ : Nat → Value} {a : Act} {w : World} (h : Sim W S H σ a w) {g : Nat} (hg : Owned H σ g) : g < w.heap.size ∧ W.M g := by
 obtain ⟨b, c, hb, hg⟩ := hg
 exact h.own_lt hb hg
def setF {α : Type} (f : Nat → α) (i : Nat) (x : α) : Nat → α := fun j => if j = i then x else f j
theorem setF_same {α : Type} (f : Nat → α) (i : Nat) (x : α) : setF f i x i = x := by simp [setF]
theorem setF_other {α : Type} (f : Nat → α) {i j : Nat} (x : α) (h : j ≠ i) : setF f i x j = f j := by simp [setF, h]
theorem Sim.new {W : SW} {S : Nat → SV} {H : HF} {σ : Nat → Value} {a : Act} {w w' : World} (h : Sim W S H σ a w)
  (hos : w'.os = w.os) (htape : w'.tape = w.tape) (hout : w'.output = w.output) (hs : w.heap.size ≤ w'.heap.size) (hk : ∀ g, g < w.heap.size → w'.heap[g]? = w.heap[g]?)
  {b : Nat} {blk : Blk} {v : Value} (hb : H b = none) (hv : v.oneCell' = true) (hown : blk.own = true → ∀ g, ownG v = some g → w.heap.size ≤ g)
  (hrep : RepB W (setF H b (some (some blk))) (setF σ b v) w' v blk) : Sim W S (setF H b (some (some blk))) (setF σ b v) a w' := by
 have hne : ∀ b', (H b').isSome = true → b' ≠ b := fun b' hb' e => by rw [e, hb] at hb'; cases hb'
 refine h.upd hos htape hout hs (fun b' => ?_) (fun b' hb' => setF_other _ _ (hne b' hb')) (fun b' hb' => ?_) (fun _ => False) (fun g hg _ => hk g hg) (fun _ hf => hf.elim) (fun g hg ho => ?_) (fun b' blk' hb' => ?_) (fun b1 b2 c c' h1 h2 hn k hk1 => ?_)
 ·by_cases e : b' = b
  ·rw [e, setF_same]; exact hv
  ·rw [setF_other _ _ e]; exact h.one b'
 ·rw [setF_other _ _ (hne b' hb')]
  exact ⟨hb', fun blk' e => ⟨blk', e, fun _ _ hd => hd⟩⟩
 ·obtain ⟨b', c, h1, h2⟩ := ho
  by_cases e : b' = b
  ·rw [e, setF_same] at h1 h2
   have := hown (by rw [Option.some.inj (Option.some.inj h1)]) g h2
   omega
  ·rw [setF_other _ _ e] at h1 h2
   exact ⟨b', c, h1, h2⟩
 ·by_cases e : b' = b
  ·right
   rw [e, setF_same] at hb'
   rw [e, setF_same, ← Option.some.inj (Option.some.inj hb')]
   exact hrep
  ·left
   rw [setF_other _ _ e] at hb'
   obtain ⟨own, con⟩ := blk'
   refine ⟨hb', fun ho g hg => ⟨fun hf => hf, ?_⟩⟩
   subst ho
   exact (h.own_lt hb' hg).1
 ·by_cases e1 : b1 = b
  ·have e2 : b2 ≠ b := fun e => hn (e1.trans e.symm)
   rw [e1, setF_same] at h1 hk1
   rw [setF_other _ _ e2] at h2 ⊢
   intro hk2
   have h3 := hown (by rw [Option.some.inj (Option.some.inj h1)]) k hk1
   have h4 := (h.own_lt h2 hk2).1
   omega
  ·rw [setF_other _ _ e1] at h1 hk1
   by_cases e2 : b2 = b
   ·rw [e2, setF_same] at h2 ⊢
    intro hk2
    have h3 := hown (by rw [Option.some.inj (Option.some.inj h2)]) k hk2
    have h4 := (h.own_lt h1 hk1).1
    omega
   ·rw [setF_other _ _ e2] at h2 ⊢
    exact h.sep b1 b2 c c' h1 h2 hn k hk1
theorem Sim.drop {W : SW} {S : Nat → SV} {H : HF} {σ : Nat → Value} {a : Act} {w : World} (h : Sim W S H σ a w) {b : Nat} {x : Option Blk} (hb : (H b).isSome = true)
  (hx : ∀ blk, x = some blk → blk.own = false ∧ (∃ blk0, H b = some (some blk0) ∧ ∀ q d, offC blk0.con q = some d → offC blk.con q = some d) ∧ RepB W (setF H b (some x)) σ w (σ b) blk) : Sim W S (setF H b (some x)) σ a w := by
 have hO : ∀ g, Owned (setF H b (some x)) σ g → Owned H σ g := by
  rintro g ⟨b', c, h1, h2⟩
  by_cases e : b' = b
  ·rw [e, setF_same] at h1
   have := hx _ (Option.some.inj h1)
   cases this.1
  ·rw [setF_other _ _ e] at h1
   exact ⟨b', c, h1, h2⟩
 refine h.upd rfl rfl rfl (Nat.le_refl _) h.one (fun _ _ => rfl) (fun b' hb' => ?_) (fun _ => False) (fun _ _ _ => rfl) (fun _ hf => hf.elim) (fun g _ ho => hO g ho) (fun b' blk' hb' => ?_) (fun b1 b2 c c' h1 h2 hn k hk1 => ?_)
 ·by_cases e : b' = b
  ·rw [e, setF_same]
   refine ⟨rfl, fun blk' he => ?_⟩
   obtain ⟨_, ⟨blk0, h0, hq⟩, _⟩ := hx blk' (Option.some.inj he)
   exact ⟨blk0, h0, hq⟩
  ·rw [setF_other _ _ e]
   exact ⟨hb', fun blk' e => ⟨blk', e, fun _ _ hd => hd⟩⟩
 ·by_cases e : b' = b
  ·right
   rw [e, setF_same] at hb'
   rw [e]
   exact (hx blk' (Option.some.inj hb')).2.2
  ·left
   rw [setF_other _ _ e] at hb'
   obtain ⟨own, con⟩ := blk'
   refine ⟨hb', fun ho g hg => ⟨fun hf => hf, ?_⟩⟩
   subst ho
   exact (h.own_lt hb' hg).1
 ·have e1 : b1 ≠ b := fun e => by
   rw [e, setF_same] at h1
   have := (hx _ (Option.some.inj h1)).1
   cases this
  have e2 : b2 ≠ b := fun e => by
   rw [e, setF_same] at h2
   have := (hx _ (Option.some.inj h2)).1
   cases this
  rw [setF_other _ _ e1] at h1
  rw [setF_other _ _ e2] at h2
  exact h.sep b1 b2 c c' h1 h2 hn k hk1
theorem Lies.of_heap {w : World} {g : Nat} {cur : Array Value} {ty : TypeId} {fr : Nat × Nat} (hg : w.heap[g]? = some (.cells cur ty fr)) {xs : List Value} {n : Nat} (h : cur.toList.take n = xs) : Lies w g 0 xs := by
 intro j v hv
 rw [cell_of_row w g (0 + j) cur ty fr hg, Nat.zero_add]
 rw [← h, List.getElem?_take] at hv
 split at hv
 ·simpa using hv
 ·cases hv
theorem Sim.freeze {W : SW} {S : Nat → SV} {H : HF} {σ : Nat → Value} {a : Act} {w : World} (h : Sim W S H σ a w) {b : Nat} {c : Con} (hb : H b = some (some ⟨true, c⟩)) : Sim W S (setF H b (some (some ⟨false, c⟩))) σ a w := by
 have hO : ∀ g, Owned (setF H b (some (some ⟨false, c⟩))) σ g → Owned H σ g ∧ ownG (σ b) ≠ some g := by
  rintro g ⟨b', c', h1, h2⟩
  by_cases e : b' = b
  ·rw [e, setF_same] at h1; cases h1
  ·rw [setF_other _ _ e] at h1
   exact ⟨⟨b', c', h1, h2⟩, h.sep b' b c' c h1 hb e g h2⟩
 have hsh : Shape H (setF H b (some (some ⟨false, c⟩))) := fun b' hb' => by
  by_cases e : b' = b
  ·rw [e, setF_same]
   refine ⟨rfl, fun blk' he => ⟨_, hb, fun _ _ hd => ?_⟩⟩
   rw [← Option.some.inj (Option.some.inj he)]
   exact hd
  ·rw [setF_other _ _ e]
   exact ⟨hb', fun blk' e => ⟨blk', e, fun _ _ hd => hd⟩⟩
 have hinn : ∀ lo k l v, Innr w (Owned H σ) lo k l v → Innr w (Owned (setF H b (some (some ⟨false, c⟩))) σ) 0 k l v := by
  intro lo k l v ⟨ao, cap, h1, h2, h3⟩
  refine ⟨ao, cap, h1, h2, fun hl => ?_⟩
  obtain ⟨g, o, e, hlo, hg, hO', hr⟩ := h3 hl
  exact ⟨g, o, e, Nat.zero_le _, hg, fun ho => hO' (hO g ho).1, hr⟩
 refine h.drop (by rw [hb]; rfl) fun blk he => ?_
 obtain rfl := Option.some.inj he
 refine ⟨rfl, ⟨_, hb, fun _ _ hd => hd⟩, ?_⟩
 have := h.blk b _ hb
 cases c with
 | box x =>
  obtain ⟨hw, g, ty, e, hM, hg⟩ := this
  refine ⟨WfA_mono hsh _ hw, g, 0, e, (Array.getElem?_eq_some_iff.1 hg).1, fun ho => (hO g ho).2 (by rw [e]; rfl), ?_⟩
  exact Lies.of_heap (n := (enc σ x).length) hg (by simp)
 | arr e l =>
  obtain ⟨xs, hr, ⟨hn, ao, hv⟩ | ⟨g, cap, cur, ty, hv, hM, hc, hg, h1, h2, h3, h4⟩⟩ := this
  ·refine ⟨xs, ao, 0, hr.imp (hinn _), by rw [hv, hn], by omega, fun hl => absurd (List.eq_nil_of_length_eq_zero hn) hl⟩
  ·refine ⟨xs, some ⟨g, 0, none⟩, cap, hr.imp (hinn _), hv, h1, fun _ => ⟨g, 0, rfl, (Array.getElem?_eq_some_iff.1 hg).1, fun ho => (hO g ho).2 ?_, Lies.of_heap hg h4⟩⟩
   rw [hv]
   simp [ownG]; omega
end Go.RR
