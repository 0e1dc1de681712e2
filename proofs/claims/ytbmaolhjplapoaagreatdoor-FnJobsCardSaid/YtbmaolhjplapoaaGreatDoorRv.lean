/- Cutting slices; building values. No condition. -/
import Derived.Test.YtbmaolhjplapoaaGreatDoorRu
import Derived.Test.YtbmaolhjplapoaaGreatDoorR0
import Derived.Laws.Slices
import Derived.Laws.Tables
set_option linter.unusedVariables false
set_option linter.unusedSimpArgs false
namespace Go.RR
open Go Go.RowKit
section
variable {R : Type} {W : SW} {X : Ctx} {s : AS} {o : Oper} {K : Eff → Option R} {r : R}
section
variable {S : Nat → SV} {H : HF} {σ : Nat → Value} {a : Act} {w : World} {T : Tab}
theorem bnd_val (hs : Sub s S H) (h : Sim W S H σ a w) {d i : Int} {x : Option Operand} (hx : bnd T s d x = some i) : (x = none ∧ i = d) ∨ ∃ y k, x = some y ∧ a.eval y = .int k i := by
 cases x with
 | none => simp only [bnd, Option.some.injEq] at hx; exact .inl ⟨rfl, hx.symm⟩
 | some y =>
  obtain ⟨k, hk⟩ := opI_val hs h (x := y) hx
  exact .inr ⟨y, k, rfl, hk⟩
theorem bounds_run (hs : Sub s S H) (hsim : Sim W S H σ a w) (isSlice : Bool) (len cap : Nat) {lo hi : Option Operand} {l h : Int} (hlo : bnd T s 0 lo = some l) (hhi : bnd T s (len : Int) hi = some h)
  (h0 : 0 ≤ l) (h1 : l ≤ h) (h2 : h ≤ (len : Int)) (hc : len ≤ cap) : (Instr.sliceBounds isSlice len cap (lo.map a.eval) (hi.map a.eval) none).run W.P w = .ok (l.toNat, h.toNat, cap) w := by
 have eh : (h.toNat : Int) = h := Int.toNat_of_nonneg (by omega)
 have hh : 0 ≤ h := by omega
 have hcap : h ≤ (cap : Int) := by omega
 rcases bnd_val hs hsim hlo with ⟨rfl, rfl⟩ | ⟨y, k, rfl, hy⟩ <;> rcases bnd_val hs hsim hhi with ⟨rfl, rfl⟩ | ⟨z, k', rfl, hz⟩
 ·simp [Instr.sliceBounds]
 ·simp [Instr.sliceBounds, hz, run_sliceBound, hh, hcap]
 ·simp [Instr.sliceBounds, hy, run_sliceBound, h0, h1]
 ·simp [Instr.sliceBounds, hy, hz, run_sliceBound, h0, h1, hh, hcap, eh]
end
theorem inS_spec {l h : Int} {n : Nat} (hc : inS l h n = true) : 0 ≤ l ∧ l ≤ h ∧ h ≤ (n : Int) := by
 simp only [inS, Bool.and_eq_true, decide_eq_true_eq] at hc
 exact ⟨hc.1.1, hc.1.2, hc.2⟩
theorem blk_isSome {b : Nat} {x : Blk} (hb : s.blk b = some x) : (lk s.hp b).isSome = true := by
 unfold AS.blk at hb
 cases hq : lk s.hp b with
 | none => rw [hq] at hb; cases hb
 | some _ => rfl
theorem aSlice_ok (hT : TabOK W.P X.T) (hd : ∀ i, o.dst = some i → i < W.N) {t : Nat} {x : Operand} {lo hi : Option Operand} (ho : o.op = .slice t x lo hi none) (h : aSlice X s o t x lo hi K = some r) : ∃ e, K e = some r ∧ OpOK W o s e := by
 unfold aSlice at h
 split at h
 ·rename_i z1 z2 z ht hx
  split at h
  ·rename_i l hh hlo hhi
   obtain ⟨hc, h⟩ := cond_some h
   obtain ⟨d1, e1, u1⟩ := (hT t _ ht).und
   cases d1 <;> simp only [UndOK] at u1
   refine ret_ok h hd fun S H σ a w hs hsim => ⟨_, ?_, rfl, rfl⟩
   have h4 := (opA_val hs hsim hx).1
   obtain ⟨q0, q1, q2⟩ := inS_spec hc
   have hb := bounds_run hs hsim false z.size z.size hlo hhi q0 q1 q2 (Nat.le_refl _)
   simp [execOp, ho, Instr.sliceAt, Instr.slice, run_und e1, h4, val, isAg, enc, hb]
  ·cases h
 ·rename_i u z1 z2 b ht hx
  split at h
  ·rename_i own e xs ti hb hu
   split at h
   ·rename_i l hh hlo hhi
    obtain ⟨hc, h⟩ := cond_some h
    simp only [Bool.and_eq_true, Nat.beq_eq] at hc
    obtain ⟨hsz, hin⟩ := hc
    obtain ⟨q0, q1, q2⟩ := inS_spec hin
    obtain ⟨d1, e1, u1⟩ := (hT t _ ht).und
    cases d1 <;> simp only [UndOK] at u1
    subst u1
    refine ⟨_, h, ⟨Nat.le_succ _, fun b' x' hm => ?_⟩, ?_⟩
    ·simp only [List.mem_cons, Prod.mk.injEq, List.not_mem_nil, or_false] at hm
     rcases hm with hm | hm
     ·rw [hm.1]; exact .inl ⟨Nat.le_refl _, Nat.lt_succ_self _⟩
     ·rw [hm.1]; exact .inr (blk_isSome hb)
    intro S H σ a w hs hf hsim next Q hnx
    have hnew := hf s.n (Nat.le_refl _) (Nat.lt_succ_self _)
    have hbH := hs.blk hb
    have hne : b ≠ s.n := fun e => by rw [e, hnew] at hbH; cases hbH
    have hsim' : Sim W S (setF H b (some (some ⟨false, .arr e xs⟩))) σ a w := by
     cases own
     ·have : setF H b (some (some ⟨false, .arr e xs⟩)) = H := by
       funext b'
       by_cases hbb : b' = b
       ·rw [hbb, setF_same, hbH]
       ·rw [setF_other _ _ hbb]
      rw [this]; exact hsim
     ·exact hsim.freeze hbH
    have hrep := hsim'.blk b ⟨false, .arr e xs⟩ (setF_same _ _ _)
    have h4 := (opA_val hs hsim hx).1
    obtain ⟨cs, ao, cap, g1, g2, g3, g4⟩ := hrep
    have hb' := bounds_run hs hsim true xs.length cap hlo hhi q0 q1 q2 g3
    have hlh : hh.toNat ≤ xs.length := by omega
    have hll : l.toNat ≤ hh.toNat := by omega
    have hlen : ((xs.take hh.toNat).drop l.toNat).length = hh.toNat - l.toNat := by simp; omega
    have hnew' : setF H b (some (some ⟨false, .arr e xs⟩)) s.n = none := by rw [setF_other _ _ (fun e => hne e.symm), hnew]
    have hexec : (execOp a.eval o).run W.P w = .ok (.value (.slice (if cap = l.toNat then ao else ao.map (·.add (l.toNat * ti.sz))) (hh.toNat - l.toNat) (cap - l.toNat))) w := by
     simp [execOp, ho, Instr.sliceAt, Instr.slice, run_und e1, h4, val_sl, g2, hb', run_size hT hu]
    refine wp_value hexec (hnx (setF σ s.n (.slice (if cap = l.toNat then ao else ao.map (·.add (l.toNat * ti.sz))) (hh.toNat - l.toNat) (cap - l.toNat))) _ _ ?_)
    refine Sim.put ?_ (d := o.dst) (sv := .a (.sl s.n)) hd ⟨by rw [val_sl, setF_same], by show (appH H ((s.n, _) :: [(b, _)]) s.n).isSome = true; simp only [appH, setF_same]; rfl⟩
    have r1 := g1.take hh.toNat
    have hl1 : (xs.take hh.toNat).length = hh.toNat := by simp; omega
    rw [hl1] at r1
    have r2 := r1.drop l.toNat (by omega)
    have hO : ∀ V g, Owned (setF (setF H b (some (some ⟨false, .arr e xs⟩))) s.n (some (some ⟨false, .arr e ((xs.take hh.toNat).drop l.toNat)⟩))) (setF σ s.n V) g → Owned (setF H b (some (some ⟨false, .arr e xs⟩))) σ g := by
     rintro V g ⟨b', c', p1, p2⟩
     by_cases e2 : b' = s.n
     ·rw [e2, setF_same] at p1; cases p1
     ·rw [setF_other _ _ e2] at p1 p2
      exact ⟨b', c', p1, p2⟩
    refine hsim'.new (blk := ⟨false, .arr e ((xs.take hh.toNat).drop l.toNat)⟩) rfl rfl rfl (Nat.le_refl _) (fun g hg => rfl) hnew' rfl (fun h => by cases h) ⟨_, _, _, r2.imp fun k l' v hv => hv.keep (Nat.le_refl _) fun g hg hO' => ⟨rfl, fun ho' => hO' (hO _ g ho')⟩, by rw [hlen], by rw [hlen]; omega, fun hne' => ?_⟩
    have hpos : 0 < hh.toNat - l.toNat := by
     rw [← hlen]
     exact List.length_pos_iff.2 hne'
    obtain ⟨g, o', p1, p2, p3, p4⟩ := g4 (by rintro rfl; simp at hlh; omega)
    refine ⟨g, o' + l.toNat * ti.sz, by rw [if_neg (by omega), p1, Option.map_some, Addr.add_lit], p2, fun ho' => p3 (hO _ g ho'), fun j v hj => ?_⟩
    rw [List.getElem?_drop, List.getElem?_take] at hj
    split at hj
    ·have := p4 _ _ hj
     rw [hsz, Nat.add_assoc]
     exact this
    ·cases hj
   ·cases h
  ·cases h
 ·cases h
theorem set_seg : ∀ (xs : List Value) (k off : Nat) (u mid v : List Value), mid.length = xs.length → u.length = off + k → (xs.zipIdx k).foldl (fun (cs : Array Value) (p : Value × Nat) => cs.setIfInBounds (off + p.2) p.1) (u ++ mid ++ v).toArray = (u ++ xs ++ v).toArray
 | [], k, off, u, mid, v, hm, hu => by
  have : mid = [] := List.eq_nil_of_length_eq_zero hm
  subst this; rfl
 | x :: xs, k, off, u, [], v, hm, hu => by cases hm
 | x :: xs, k, off, u, m :: mid, v, hm, hu => by
  rw [List.zipIdx_cons, List.foldl_cons]
  have h1 : (u ++ m :: mid ++ v).toArray.setIfInBounds (off + k) x = ((u ++ [x]) ++ mid ++ v).toArray := by
   rw [← hu]
   apply Array.toList_inj.1
   simp
  have := set_seg xs (k + 1) off (u ++ [x]) mid v (by simpa using hm) (by simp; omega)
  simp only [h1]
  rw [this]
  simp
theorem fill_step {place : Nat → Option (Nat × Nat)} {u mid v c : List Value} {i off size : Nat} {x : Value} {rest : List (Nat × Value)} (hp : place i = some (off, size)) (hx : x.cells = c.toArray) (hc : c.length = size) (hm : mid.length = c.length) (hu : u.length = off) :
  Instr.fill place (u ++ mid ++ v).toArray ((i, x) :: rest) = Instr.fill place (u ++ c ++ v).toArray rest := by
 simp only [Instr.fill, hp]
 rw [if_neg (by simp [hx, hc, hm, hu])]
 congr 1
 rw [hx, ← Array.foldl_toList, Array.toList_zipIdx]
 exact set_seg c 0 off u mid v hm (by omega)
section
variable {S : Nat → SV} {H : HF} {σ : Nat → Value} {a : Act} {w : World} {T : Tab}
def IsRow (s : AS) (b : Nat) (k : IntKind) (l : List Int) : Prop := s.blk b = some ⟨true, .arr (.one (.i k)) l⟩
def IsOld (s : AS) (b : Nat) (k : IntKind) (l : List Int) : Prop := s.blk b = some ⟨false, .arr (.one (.i k)) l⟩
theorem elA_spec {wk : Bool} {e : ET} {b : A} {y : e.den} {cs : List Nat} (h : elA s wk e b = some (y, cs)) :
  (∀ b' ∈ cs, ∃ k l, IsRow s b' k l) ∧ ∀ (I : Inn) (σ : Nat → Value), (∀ b' ∈ cs, ∀ k l, IsRow s b' k l → I k l (σ b')) → (wk = true → ∀ b' k l, IsOld s b' k l → I k l (σ b')) → (∀ k, I k [] (.slice none 0 0)) → ElC I e y (enc σ b) := by
 have flat : ∀ e' : ET, ∀ y' : e'.den, (match e'.ofA b with
  | some y => some (y, [])
  | none => none) = some (y', cs) → (∀ b' ∈ cs, ∃ k l, IsRow s b' k l) ∧ ∀ (I : Inn) (σ : Nat → Value), (∀ b' ∈ cs, ∀ k l, IsRow s b' k l → I k l (σ b')) → (wk = true → ∀ b' k l, IsOld s b' k l → I k l (σ b')) → (∀ k, I k [] (.slice none 0 0)) → ElC I e' y' (enc σ b) := by
  intro e' y' h
  split at h
  ·rename_i z hz
   obtain ⟨h1, h2⟩ := Prod.mk.inj (Option.some.inj h)
   subst h1 h2
   exact ⟨fun b' hb' => (nomatch hb'), fun I σ _ _ _ => ElC.ofA σ hz⟩
  ·cases h
 cases e with
 | st ts => exact flat _ _ h
 | one t =>
  cases t with
  | ls k =>
   replace h : rowOf s wk k b = some (y, cs) := h
   unfold rowOf at h
   split at h
   ·obtain ⟨h1, h2⟩ := Prod.mk.inj (Option.some.inj h)
    have h1 : y = ([] : List Int) := h1.symm
    subst h1 h2
    exact ⟨fun b' hb' => (nomatch hb'), fun I σ _ _ hn => ⟨_, rfl, hn k⟩⟩
   ·rename_i b0
    split at h
    ·rename_i k' l hb
     obtain ⟨hk, h⟩ := cond_some h
     replace hk := keq_eq hk
     subst hk
     obtain ⟨h1, h2⟩ := Prod.mk.inj (Option.some.inj h)
     have h1 : y = l := h1.symm
     subst h1 h2
     refine ⟨fun b' hb' => ?_, fun I σ hI _ _ => ⟨σ b0, rfl, hI b0 (by simp) _ _ hb⟩⟩
     simp only [List.mem_singleton] at hb'
     subst hb'
     exact ⟨_, _, hb⟩
    ·rename_i k' l hb
     obtain ⟨hk, h⟩ := cond_some h
     rw [Bool.and_eq_true] at hk
     obtain ⟨hwk, hk⟩ := hk
     replace hk := keq_eq hk
     subst hk
     obtain ⟨h1, h2⟩ := Prod.mk.inj (Option.some.inj h)
     have h1 : y = l := h1.symm
     subst h1 h2
     exact ⟨fun b' hb' => (nomatch hb'), fun I σ _ hI _ => ⟨σ b0, rfl, hI hwk b0 _ _ hb⟩⟩
    ·cases h
   ·cases h
  | _ => exact flat _ _ h
theorem fillL_sub {wk : Bool} {u : Nat} {e : ET} : ∀ (ps : List (Nat × Operand)) (z l : List e.den) (bs bF : List Nat), fillL T s wk u ps z bs = some (l, bF) → (∀ b ∈ bs, b ∈ bF) ∧ ((∀ b ∈ bs, ∃ k l, IsRow s b k l) → ∀ b ∈ bF, ∃ k l, IsRow s b k l)
 | [], z, l, bs, bF, h => by
  simp only [fillL, Option.some.injEq, Prod.mk.injEq] at h
  obtain ⟨_, rfl⟩ := h
  exact ⟨fun b hb => hb, fun hb => hb⟩
 | (i, x) :: ps, z, l, bs, bF, h => by
  simp only [fillL] at h
  split at h
  ·split at h
   ·rename_i y cs hy
    obtain ⟨_, h⟩ := cond_some h
    obtain ⟨h1, h2⟩ := fillL_sub ps _ l _ bF h
    refine ⟨fun b hb => h1 b (List.mem_append.2 (.inr hb)), fun hb => h2 fun b hb' => ?_⟩
    rcases List.mem_append.1 hb' with hb' | hb'
    ·exact (elA_spec hy).1 b hb'
    ·exact hb b hb'
   ·cases h
  ·cases h
theorem fillL_ok (hs : Sub s S H) (hsim : Sim W S H σ a w) {I : Inn} (hn : ∀ k, I k [] (.slice none 0 0)) {wk : Bool} {u : Nat} {e : ET} (hold : wk = true → ∀ b k l, IsOld s b k l → I k l (σ b)) : ∀ (ps : List (Nat × Operand)) (z l : List e.den) (bs bF : List Nat) (xs : List Value), fillL T s wk u ps z bs = some (l, bF) →
  (∀ b ∈ bF, ∀ k l, IsRow s b k l → I k l (σ b)) → RowsC I e z xs →
  ∃ ys, Instr.fill (fun i => some (i * e.sz, e.sz)) xs.toArray (ps.map fun p => (p.1, a.eval p.2)) = some ys.toArray ∧ RowsC I e l ys ∧ l.length = z.length
 | [], z, l, bs, bF, xs, h, hI, hr => by
  simp only [fillL, Option.some.injEq, Prod.mk.injEq] at h
  obtain ⟨rfl, _⟩ := h
  exact ⟨xs, rfl, hr, rfl⟩
 | (i, x) :: ps, z, l, bs, bF, xs, h, hI, hr => by
  simp only [fillL] at h
  split at h
  ·rename_i b hb
   split at h
   ·rename_i y cs hy
    obtain ⟨hi, h⟩ := cond_some h
    have hi : i < z.length := Nat.le_of_ble_eq_true hi
    obtain ⟨u1, c, v1, rfl, hul, hc, hset⟩ := hr.get i hi
    have hv := opA_val hs hsim hb
    have hcs : ∀ b' ∈ cs, b' ∈ bF := fun b' hb' => (fillL_sub ps _ l _ bF h).1 b' (List.mem_append.2 (.inl hb'))
    have hy' := (elA_spec hy).2 I σ (fun b' hb' => hI b' (hcs b' hb')) hold hn
    obtain ⟨ys, h1, h2, h3⟩ := fillL_ok hs hsim hn hold ps (z.set i y) l _ bF _ h hI (hset y (enc σ b) hy')
    refine ⟨ys, ?_, h2, by rw [h3, List.length_set]⟩
    rw [List.map_cons, ← h1]
    exact fill_step rfl (by rw [hv.1]; exact val_cells hsim.one hv.2) hy'.len (by rw [hc.len, hy'.len]) hul
   ·cases h
  ·cases h
theorem froz_other : ∀ (bs : List Nat) (b : Nat), b ∉ bs → appH H (froz s bs) b = H b
 | [], _, _ => rfl
 | c :: bs, b, hb => by
  show setF (appH H (froz s bs)) c _ b = H b
  rw [setF_other _ _ (fun e => hb (by simp [e])), froz_other bs b (fun h => hb (by simp [h]))]
theorem froz_in : ∀ (bs : List Nat) (b : Nat), b ∈ bs → ∀ o c, s.blk b = some ⟨o, c⟩ → appH H (froz s bs) b = some (some ⟨false, c⟩)
 | [], _, hb, _, _, _ => (nomatch hb)
 | d :: bs, b, hb, o, c, h => by
  show setF (appH H (froz s bs)) d _ b = _
  by_cases e : b = d
  ·subst e
   rw [setF_same, h]
  ·rw [setF_other _ _ e]
   exact froz_in bs b (by simpa [e] using hb) o c h
theorem froz_mem : ∀ (bs : List Nat) (b : Nat) (x : Option Blk), (b, x) ∈ froz s bs → b ∈ bs
 | [], _, _, h => (nomatch h)
 | c :: bs, b, x, h => by
  rcases List.mem_cons.1 h with h | h
  ·simp only [Prod.mk.injEq] at h
   simp [h.1]
  ·simp [froz_mem bs b x h]
theorem Sim.frozen (hs : Sub s S H) (hsim : Sim W S H σ a w) : ∀ bs : List Nat, bs.Nodup → (∀ b ∈ bs, ∃ c, s.blk b = some ⟨true, c⟩) → Sim W S (appH H (froz s bs)) σ a w
 | [], _, _ => hsim
 | b :: bs, hnd, hb => by
  obtain ⟨h1, h2⟩ := List.nodup_cons.1 hnd
  have ih := Sim.frozen hs hsim bs h2 fun b' hb' => hb b' (by simp [hb'])
  obtain ⟨c, hc⟩ := hb b (by simp)
  have : appH H (froz s (b :: bs)) = setF (appH H (froz s bs)) b (some (some ⟨false, c⟩)) := by
   show setF (appH H (froz s bs)) b _ = _
   rw [hc]
  rw [this]
  exact ih.freeze (c := c) (by rw [froz_other bs b h1]; exact hs.blk hc)
theorem froz_owned (hs : Sub s S H) (hsim : Sim W S H σ a w) {bs : List Nat} (hb : ∀ b ∈ bs, ∃ c, s.blk b = some ⟨true, c⟩) {g : Nat} (h : Owned (appH H (froz s bs)) σ g) : Owned H σ g ∧ ∀ b ∈ bs, ownG (σ b) ≠ some g := by
 obtain ⟨b', c', p1, p2⟩ := h
 by_cases hm : b' ∈ bs
 ·obtain ⟨c, hc⟩ := hb b' hm
  rw [froz_in bs b' hm _ _ hc] at p1
  cases p1
 ·rw [froz_other bs b' hm] at p1
  refine ⟨⟨b', c', p1, p2⟩, fun b hbm => ?_⟩
  obtain ⟨c, hc⟩ := hb b hbm
  exact hsim.sep b' b c' c p1 (hs.blk hc) (fun e => hm (e ▸ hbm)) g p2
theorem froz_innr (hs : Sub s S H) (hsim : Sim W S H σ a w) {bs : List Nat} (hb : ∀ b ∈ bs, ∃ c, s.blk b = some ⟨true, c⟩) {b : Nat} (hm : b ∈ bs) {k : IntKind} {l : List Int} (h : IsRow s b k l) : Innr w (Owned (appH H (froz s bs)) σ) W.lo k l (σ b) := by
 obtain ⟨xs, hr, ho⟩ := hsim.blk b _ (hs.blk h)
 have hx := rows_ints hr
 have ho : OwnArr W w (σ b) 1 l.length xs := ho
 rcases ho with ⟨hn, ao, hv⟩ | ⟨g, cap, cur, ty, hv, hM, hc, hg, h1, h2, h3, h4⟩
 ·exact ⟨ao, 0, by rw [hv, hn], by omega, fun hl => absurd (List.eq_nil_of_length_eq_zero hn) hl⟩
 ·refine ⟨some ⟨g, 0, none⟩, cap, hv, h1, fun _ => ⟨g, 0, rfl, W.hL g hM, (Array.getElem?_eq_some_iff.1 hg).1, fun ho => (froz_owned hs hsim hb ho).2 b hm ?_, ?_⟩⟩
  ·rw [hv]; simp [ownG]; omega
  ·rw [← hx]; exact Lies.of_heap hg h4
theorem old_innr (hs : Sub s S H) (hsim : Sim W S H σ a w) {bs : List Nat} (hb : ∀ b ∈ bs, ∃ c, s.blk b = some ⟨true, c⟩) {b : Nat} {k : IntKind} {l : List Int} (h : IsOld s b k l) : Innr w (Owned (appH H (froz s bs)) σ) 0 k l (σ b) := by
 obtain ⟨xs, ao, cap, hr, hv, hc, hl⟩ := hsim.blk b _ (hs.blk h)
 have hx := rows_ints hr
 refine ⟨ao, cap, hv, hc, fun hne => ?_⟩
 obtain ⟨g, o, e, hg, hO, hlie⟩ := hl hne
 exact ⟨g, o, e, Nat.zero_le _, hg, fun ho => hO (froz_owned hs hsim hb ho).1, by rw [← hx]; exact hlie⟩
theorem fillN_ok (hs : Sub s S H) (hsim : Sim W S H σ a w) {u n : Nat} {k : IntKind} : ∀ (ps : List (Nat × Operand)) (f g : Nat → Int), fillN T s u n k ps f = some g →
  Instr.fill (fun i => some (i * 1, 1)) (enc σ (.fa n k f)).toArray (ps.map fun p => (p.1, a.eval p.2)) = some (enc σ (.fa n k g)).toArray
 | [], f, g, h => by
  simp only [fillN, Option.some.injEq] at h
  subst h; rfl
 | (i, x) :: ps, f, g, h => by
  simp only [fillN] at h
  split at h
  ·rename_i k' y hb
   obtain ⟨hc, h2⟩ := cond_some h
   simp only [Bool.and_eq_true] at hc
   obtain ⟨hk, hi⟩ := hc
   have := keq_eq hk
   subst this
   have hi : i < n := Nat.le_of_ble_eq_true hi
   have hv := opA_val hs hsim hb
   rw [List.map_cons, ← fillN_ok hs hsim ps (upd f i y) g h2]
   simp only [enc]
   rw [range_split _ hi, map_upd k f y hi]
   exact fill_step rfl (by rw [hv.1]; rfl) rfl rfl (by simp)
  ·cases h
theorem fillB_ok (hs : Sub s S H) (hsim : Sim W S H σ a w) {u n : Nat} : ∀ (ps : List (Nat × Operand)) (f g : Nat → Bool), fillB T s u n ps f = some g →
  Instr.fill (fun i => some (i * 1, 1)) (enc σ (.fb n f)).toArray (ps.map fun p => (p.1, a.eval p.2)) = some (enc σ (.fb n g)).toArray
 | [], f, g, h => by
  simp only [fillB, Option.some.injEq] at h
  subst h; rfl
 | (i, x) :: ps, f, g, h => by
  simp only [fillB] at h
  split at h
  ·rename_i y hb
   obtain ⟨hi, h⟩ := cond_some h
   have hi : i < n := Nat.le_of_ble_eq_true hi
   have hv := opA_val hs hsim hb
   rw [List.map_cons, ← fillB_ok hs hsim ps (updb f i y) g h]
   simp only [enc]
   rw [range_split _ hi, map_updb f y hi]
   exact fill_step rfl (by rw [hv.1]; rfl) rfl rfl (by simp)
  ·cases h
theorem fillM_ok (hs : Sub s S H) (hsim : Sim W S H σ a w) {u n m : Nat} {k : IntKind} : ∀ (ps : List (Nat × Operand)) (f g : Nat → Nat → Int), fillM T s u n m k ps f = some g →
  Instr.fill (fun i => some (i * m, m)) (enc σ (.fa2 n m k f)).toArray (ps.map fun p => (p.1, a.eval p.2)) = some (enc σ (.fa2 n m k g)).toArray
 | [], f, g, h => by
  simp only [fillM, Option.some.injEq] at h
  subst h; rfl
 | (i, x) :: ps, f, g, h => by
  simp only [fillM] at h
  split at h
  ·rename_i m' k' y hb
   obtain ⟨hc, h2⟩ := cond_some h
   simp only [Bool.and_eq_true] at hc
   obtain ⟨⟨hk, hmm⟩, hi⟩ := hc
   have := keq_eq hk
   subst this
   have hmm := Nat.eq_of_beq_eq_true hmm
   subst hmm
   have hi : i < n := Nat.le_of_ble_eq_true hi
   have hv := opA_val hs hsim hb
   have hle : i * m + m ≤ n * m := by rw [← Nat.succ_mul]; exact Nat.mul_le_mul_right _ hi
   rw [List.map_cons, ← fillM_ok hs hsim ps (updR f i y) g h2]
   simp only [enc]
   rw [range_seg (fun j => Value.int k (f (j / m) (j % m))) hle, map_updR k f y hi]
   exact fill_step rfl (by rw [hv.1]; rfl) (by simp) (by simp) (by simp)
  ·cases h
theorem fillS_ok (hs : Sub s S H) (hsim : Sim W S H σ a w) {fs : List (Nat × Nat)} : ∀ (ps : List (Nat × Operand)) (as bs : List A), fillS T s fs ps as = some bs → WfL H as → WfL H bs ∧
  ∀ place : Nat → Option (Nat × Nat), (∀ i d u ti, fs[i]? = some (d, u) → lk T u = some ti → place i = some (d, ti.sz)) → Instr.fill place (encL σ as).toArray (ps.map fun p => (p.1, a.eval p.2)) = some (encL σ bs).toArray
 | [], as, bs, h, hw => by
  simp only [fillS, Option.some.injEq] at h
  subst h; exact ⟨hw, fun _ _ => rfl⟩
 | (i, x) :: ps, as, bs, h, hw => by
  simp only [fillS] at h
  split at h
  ·rename_i d u b hf hb
   split at h
   ·rename_i ti y hti hy
    obtain ⟨hc, h⟩ := cond_some h
    simp only [Bool.and_eq_true, Nat.beq_eq] at hc
    obtain ⟨⟨hcp, hoff⟩, hsz⟩ := hc
    have hv := opA_val hs hsim hy
    have hw' : WfL H (as.set i y) := WfL_of fun c hc => by
     rcases List.mem_or_eq_of_mem_set hc with hc | rfl
     ·exact WfL_mem hw c hc
     ·exact hv.2
    obtain ⟨h1, h2⟩ := fillS_ok hs hsim ps (as.set i y) bs h hw'
    refine ⟨h1, fun place hp => ?_⟩
    rw [List.map_cons, ← h2 place hp]
    have e1 : encL σ as = encL σ (as.take i) ++ enc σ b ++ encL σ (as.drop (i + 1)) := by
     conv => lhs; rw [list_split hb]
     rw [encL_append]
     simp only [encL, List.append_assoc]
    have e2 : encL σ (as.set i y) = encL σ (as.take i) ++ enc σ y ++ encL σ (as.drop (i + 1)) := by
     rw [list_set hb, encL_append]
     simp only [encL, List.append_assoc]
    rw [e1, e2]
    exact fill_step (hp i d u ti hf hti) (by rw [hv.1]; exact val_cells hsim.one hv.2) (by rw [enc_len, hsz]) (by rw [enc_len, enc_len, compat_sz _ _ hcp]) (by rw [encL_len, hoff])
   ·cases h
  ·cases h
end
theorem zeroL_lk {T : Tab} : ∀ {fs : List (Nat × Nat)} {d : Nat} {as : List A}, zeroL T d fs = some as → ∀ p ∈ fs, ∃ ti, lk T p.2 = some ti
 | [], d, as, h, p, hp => by cases hp
 | (o, t) :: fs, d, as, h, p, hp => by
  cases d with
  | zero => simp only [zeroL] at h; cases h
  | succ d =>
   simp only [zeroL] at h
   split at h
   ·rename_i a as' ha has
    rcases List.mem_cons.1 hp with rfl | hp
    ·cases d with
     | zero => simp only [zeroA] at ha; cases ha
     | succ d =>
      cases hl : lk T t with
      | some ti => exact ⟨ti, rfl⟩
      | none => simp only [zeroA, hl] at ha; cases ha
    ·exact zeroL_lk has p hp
   ·cases h
theorem map_parts (ps : Array (Nat × Operand)) (a : Act) : (ps.map fun (i, x) => (i, a.eval x)).toList = ps.toList.map fun p => (p.1, a.eval p.2) := by simp
theorem places_ok (hT : TabOK W.P X.T) : ∀ (fields : List Field), (∀ f ∈ fields, ∃ ti, lk X.T f.type = some ti) →
  ∃ pl : List (Nat × Nat), fields.mapM (fun f => (W.P.info? f.type).map fun i => (f.offset, i.size)) = some pl ∧ ∀ i d u ti, (fields.map fun f => (f.offset, f.type))[i]? = some (d, u) → lk X.T u = some ti → (pl : List (Nat × Nat))[(i : Nat)]? = some (d, TI.sz ti)
 | [], _ => ⟨[], rfl, fun i d u ti h => by cases i <;> cases h⟩
 | f :: fields, h => by
  obtain ⟨ti, hti⟩ := h f (by simp)
  obtain ⟨g, hg1, hg2, _⟩ := (hT f.type ti hti).inf
  obtain ⟨pl, h1, h2⟩ := places_ok hT fields fun f' hf' => h f' (by simp [hf'])
  refine ⟨(f.offset, g.size) :: pl, by simp [List.mapM_cons, hg1, h1], fun i d u ti' hi hu => ?_⟩
  cases i with
  | zero =>
   simp only [List.map_cons, List.getElem?_cons_zero, Option.some.injEq, Prod.mk.injEq] at hi
   obtain ⟨rfl, rfl⟩ := hi
   rw [hti] at hu; cases hu
   rw [List.getElem?_cons_zero, hg2]
  | succ i =>
   rw [List.getElem?_cons_succ]
   exact h2 i d u ti' (by simpa using hi) hu
theorem aBuild_ok (hT : TabOK W.P X.T) (hd : ∀ i, o.dst = some i → i < W.N) {t : Nat} {ps : Array (Nat × Operand)} (ho : o.op = .build t ps) (h : aBuild X s o t ps.toList K = some r) : ∃ e, K e = some r ∧ OpOK W o s e := by
 have fin : ∀ {z y : A} {ti : TI}, lk X.T t = some ti → zeroA X.T 16 t = some z → isAg y = true → ret s o y K = some r → (∀ S H σ a w, Sub s S H → Sim W S H σ a w → WfA H y ∧ ∀ zv, zv.cells = (enc σ z).toArray → (∀ f, W.P.info? t = some f → f.zero = some zv) → W.P.built t (ps.toList.map fun p => (p.1, a.eval p.2)) = some (enc σ y).toArray) → ∃ e, K e = some r ∧ OpOK W o s e := by
  intro z y ti ht hz hag hk hbuilt
  refine ret_ok hk hd fun S H σ a w hs hsim => ?_
  obtain ⟨h1, h2⟩ := hbuilt S H σ a w hs hsim
  obtain ⟨f, hf, hf1, hf2, hf3⟩ := (hT t ti ht).inf
  obtain ⟨hz1, hz2⟩ := hf3 z hz
  have hz1' : f.zero = some (val σ z) := by rw [hz1]; exact congrArg some (zero_val' hz2 _)
  have hzc := val_cells hsim.one (hz2 H)
  have hrun := run_build (P := W.P) w t (ps.map fun (i, x) => (i, a.eval x)) _ (by rw [map_parts]; exact h2 _ hzc (fun f' hf' => by rw [hf] at hf'; cases hf'; exact hz1'))
  exact ⟨val σ y, by simp only [execOp, ho, hrun, Sem.run_bind, Result.andThen_ok, Sem.run_pure, val_ag hag], rfl, h1⟩
 unfold aBuild at h
 split at h
 ·rename_i fs sz by_ as ht hz
  split at h
  ·rename_i bs hbs
   refine fin ht hz rfl h fun S H σ a w hs hsim => ?_
   obtain ⟨f, hf, hf1, hf2, hf3⟩ := (hT t _ ht).inf
   obtain ⟨hz1, hz2⟩ := hf3 _ hz
   obtain ⟨h1, h2⟩ := fillS_ok hs hsim ps.toList as bs hbs (hz2 H)
   refine ⟨h1, fun zv hzv hzf => ?_⟩
   obtain ⟨dd, e1, u1⟩ := (hT t _ ht).und
   cases dd <;> simp only [UndOK] at u1
   rename_i fields
   have hzl : zeroL X.T 15 fs = some as := by
    simp only [zeroA, ht] at hz
    split at hz
    ·rename_i as' has
     cases hz; exact has
    ·cases hz
   obtain ⟨pl, hpl, hpl2⟩ := places_ok (X := X) hT fields.toList fun f' hf' => zeroL_lk hzl (f'.offset, f'.type) (by rw [← u1]; exact List.mem_map_of_mem hf')
   unfold Program.built
   simp only [hf, e1, hzf f hf, hpl]
   rw [hzv]
   exact h2 _ fun i d u ti hi hu => by
    rw [← u1] at hi
    rw [List.getElem?_toArray]
    exact hpl2 i d u ti hi hu
  ·cases h
 ·rename_i n0 e0 sz by_ n k f0 ht hz
  split at h
  ·rename_i ti g hti hg
   obtain ⟨h1, h⟩ := cond_some h
   have h1 : ti.sz = 1 := Nat.eq_of_beq_eq_true h1
   refine fin ht hz rfl h fun S H σ a w hs hsim => ⟨trivial, fun zv hzv hzf => ?_⟩
   obtain ⟨dd, e1, u1⟩ := (hT t _ ht).und
   cases dd <;> simp only [UndOK] at u1
   obtain ⟨rfl, rfl⟩ := u1
   obtain ⟨f, hf, _⟩ := (hT t _ ht).inf
   obtain ⟨f', hf', hs', _⟩ := (hT _ _ hti).inf
   unfold Program.built
   simp only [hf, e1, hzf f hf, hf']
   rw [hzv, hs', h1]
   exact fillN_ok hs hsim ps.toList f0 g hg
  ·cases h
 ·rename_i n0 e0 sz by_ n f0 ht hz
  split at h
  ·rename_i ti g hti hg
   obtain ⟨h1, h⟩ := cond_some h
   have h1 : ti.sz = 1 := Nat.eq_of_beq_eq_true h1
   refine fin ht hz rfl h fun S H σ a w hs hsim => ⟨trivial, fun zv hzv hzf => ?_⟩
   obtain ⟨dd, e1, u1⟩ := (hT t _ ht).und
   cases dd <;> simp only [UndOK] at u1
   obtain ⟨rfl, rfl⟩ := u1
   obtain ⟨f, hf, _⟩ := (hT t _ ht).inf
   obtain ⟨f', hf', hs', _⟩ := (hT _ _ hti).inf
   unfold Program.built
   simp only [hf, e1, hzf f hf, hf']
   rw [hzv, hs', h1]
   exact fillB_ok hs hsim ps.toList f0 g hg
  ·cases h
 ·rename_i n0 e0 sz by_ n m k f0 ht hz
  split at h
  ·rename_i ti g hti hg
   obtain ⟨h1, h⟩ := cond_some h
   have h1 : ti.sz = m := Nat.eq_of_beq_eq_true h1
   refine fin ht hz rfl h fun S H σ a w hs hsim => ⟨trivial, fun zv hzv hzf => ?_⟩
   obtain ⟨dd, e1, u1⟩ := (hT t _ ht).und
   cases dd <;> simp only [UndOK] at u1
   obtain ⟨rfl, rfl⟩ := u1
   obtain ⟨f, hf, _⟩ := (hT t _ ht).inf
   obtain ⟨f', hf', hs', _⟩ := (hT _ _ hti).inf
   unfold Program.built
   simp only [hf, e1, hzf f hf, hf']
   rw [hzv, hs', h1]
   exact fillM_ok hs hsim ps.toList f0 g hg
  ·cases h
 ·cases h
theorem aBuildSlice_ok (hT : TabOK W.P X.T) (hwk : X.weak = true → W.lo = 0) (hd : ∀ i, o.dst = some i → i < W.N) {t m : Nat} {ps : Array (Nat × Operand)} (ho : o.op = .buildSlice t m ps) (h : aBuildSlice X s o t m ps.toList K = some r) : ∃ e, K e = some r ∧ OpOK W o s e := by
 unfold aBuildSlice at h
 split at h
 ·rename_i u sz by_ ht
  split at h
  ·rename_i e ti z he hu hz
   split at h
   ·rename_i l bs hl
    obtain ⟨hc, hk⟩ := cond_some h
    simp only [Bool.and_eq_true] at hc
    obtain ⟨⟨⟨hft, hpos⟩, hle⟩, hnd⟩ := hc
    have hpos : 0 < ti.sz := Nat.le_of_ble_eq_true hpos
    have hle : m * ti.sz ≤ 65536 := Nat.le_of_ble_eq_true hle
    have hnd := nodupN_spec _ hnd
    have hbs := (fillL_sub ps.toList _ l [] bs hl).2 (fun b hb => (nomatch hb))
    have hbs' : ∀ b ∈ bs, ∃ c, s.blk b = some ⟨true, c⟩ := fun b hb => by
     obtain ⟨k, l', h⟩ := hbs b hb
     exact ⟨_, h⟩
    refine ⟨_, hk, ⟨Nat.le_succ _, fun b' x' hm => ?_⟩, ?_⟩
    ·rcases List.mem_cons.1 hm with hm | hm
     ·simp only [Prod.mk.injEq] at hm
      rw [hm.1]; exact .inl ⟨Nat.le_refl _, Nat.lt_succ_self _⟩
     ·obtain ⟨c, hc⟩ := hbs' b' (froz_mem bs b' x' hm)
      exact .inr (blk_isSome hc)
    intro S H σ a w hs hfr hsim next Q hnx
    have hnew0 := hfr s.n (Nat.le_refl _) (Nat.lt_succ_self _)
    have hnew : appH H (froz s bs) s.n = none := by
     rw [froz_other bs s.n fun hm => ?_]
     ·exact hnew0
     ·obtain ⟨c, hc⟩ := hbs' s.n hm
      have := hs.blk hc
      rw [hnew0] at this; cases this
    have hsim1 := Sim.frozen hs hsim bs hnd hbs'
    obtain ⟨f, hf, hf1, hf2, hf3⟩ := (hT u ti hu).inf
    obtain ⟨hz1, hz2⟩ := hf3 z hz
    obtain ⟨d, hd1, hd2⟩ := (hT t _ ht).und
    have hund : W.P.underlying t = some (.slice u) := by
     cases d <;> simp [UndOK] at hd2
     rw [hd1, hd2]
    have hzc := val_cells (σ := fun _ => .bool false) (fun _ => rfl) (hz2 H)
    have hz1' : f.zero = some (val (fun _ => .bool false) z) := by rw [hz1]; exact congrArg some (zero_val' hz2 _)
    obtain ⟨ti', hti', hsz, _⟩ := fitT_spec hft
    rw [hu] at hti'; cases hti'
    have hlen : (enc (fun _ => .bool false) z).length = ti.sz := by rw [enc_len, hsz]
    have hel : ElC (Innr w (Owned (appH H (froz s bs)) σ) W.lo) e e.dflt (enc (fun _ => .bool false) z) := zero_el he hz
    have hesz : ti.sz = e.sz := by rw [← hlen]; exact hel.len
    have hcells := made_flat (enc (fun _ => .bool false) z) ti.sz hlen m
    obtain ⟨ys, h1, h2, h3⟩ := fillL_ok hs hsim (I := Innr w (Owned (appH H (froz s bs)) σ) W.lo) (fun k => nil_innr) (fun hw b k l' h => by rw [hwk hw]; exact old_innr hs hsim hbs' h) ps.toList _ l _ bs _ hl (fun b hb k l' h => froz_innr hs hsim hbs' hb h) (RowsC.rep hel m)
    rw [List.length_replicate] at h3
    have hysl : ys.length = m * ti.sz := by rw [h2.len, h3, hesz]
    rw [← hcells, ← hesz] at h1
    have hrun : (Instr.buildSlice t m (ps.map fun (i, x) => (i, a.eval x))).run W.P w = .ok (.slice (some ⟨w.heap.size, 0, none⟩) m m) (w.alloc (.cells ys.toArray u)) := by
     have h1' : Instr.fill (fun i => some (i * ti.sz, ti.sz)) (madeCells (enc (fun _ => .bool false) z).toArray (m * ti.sz)) (ps.map fun (i, x) => (i, a.eval x)).toList = some ys.toArray := by
      rw [map_parts]; exact h1
     unfold madeCells at h1'
     have hnl : ¬ (2 ^ 24 < m * ti.sz) := by omega
     by_cases hm : m * ti.sz = 0
     ·have h1'' : Instr.fill (fun i => some (i * ti.sz, ti.sz)) #[] (ps.map fun (i, x) => (i, a.eval x)).toList = some ys.toArray := by
       rw [hm] at h1'
       simpa [Array.range_zero'] using h1'
      rw [map_parts] at h1''
      simp only [Instr.buildSlice, run_und hund, Sem.run_bind, Result.andThen_ok, run_size hT hu, hm]
      simp [Array.range_zero', h1'', newRow]
     ·rw [map_parts] at h1'
      simp at h1'
      simp only [Instr.buildSlice, run_und hund, Sem.run_bind, Result.andThen_ok, run_size hT hu]
      simp [zeroValue, typeInfo, hf, hz1', hzc, hm, hnl, h1', newRow]
    have hO : ∀ g, g < w.heap.size → Owned (setF (appH H (froz s bs)) s.n (some (some ⟨true, .arr e l⟩))) (setF σ s.n (.slice (some ⟨w.heap.size, 0, none⟩) m m)) g → Owned (appH H (froz s bs)) σ g := by
     rintro g hg ⟨b', c', p1, p2⟩
     by_cases e2 : b' = s.n
     ·rw [e2, setF_same] at p2
      simp only [ownG] at p2
      split at p2
      ·cases p2
      ·cases p2; exact absurd hg (Nat.lt_irrefl _)
     ·rw [setF_other _ _ e2] at p1 p2
      exact ⟨b', c', p1, p2⟩
    have hexec : (execOp a.eval o).run W.P w = .ok (.value (.slice (some ⟨w.heap.size, 0, none⟩) m m)) (w.alloc (.cells ys.toArray u)) := by
     simp only [execOp, ho, hrun, Sem.run_bind, Result.andThen_ok, Sem.run_pure]
    refine wp_value hexec (hnx (setF σ s.n (.slice (some ⟨w.heap.size, 0, none⟩) m m)) _ _ ?_)
    refine Sim.put ?_ (d := o.dst) (sv := .a (.sl s.n)) hd ⟨by rw [val_sl, setF_same], by show (setF (appH H (froz s bs)) s.n _ s.n).isSome = true; rw [setF_same]; rfl⟩
    refine hsim1.new (w' := w.alloc (.cells ys.toArray u)) (v := .slice (some ⟨w.heap.size, 0, none⟩) m m) (blk := ⟨true, .arr e l⟩) rfl rfl rfl (by simp) (fun g hg => Below.heap_alloc w _ g hg) hnew rfl (fun _ g hg => ?_) ⟨ys, h2.imp fun k l' v hv => hv.keep (by simp) fun g hg hO' => ⟨Below.heap_alloc w _ g hg, fun ho' => hO' (hO g hg ho')⟩, ?_⟩
    ·simp only [ownG] at hg
     split at hg
     ·cases hg
     ·cases hg; exact Nat.le_refl _
    ·rw [h3]
     by_cases hm0 : m = 0
     ·exact .inl ⟨hm0, _, by rw [hm0]⟩
     ·have hmm : m ≤ 65536 := Nat.le_trans (Nat.le_mul_of_pos_right _ hpos) hle
      refine .inr ⟨w.heap.size, m, _, u, rfl, W.hM _ hsim.bel.size, by omega, Go.heap_alloc_new w _, Nat.le_refl _, by simp only [maxLen]; omega, ?_, ?_⟩
      ·simp [hysl, hesz]
      ·rw [← hesz]
       exact List.take_of_length_le (by simp [hysl])
   ·cases h
  ·cases h
 ·cases h
end
end Go.RR
