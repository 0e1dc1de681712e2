/- Cutting slices; building values. No condition. -/
import Derived.Test.YtbmaolhjplapoaaGreatRu
import Derived.Test.YtbmaolhjplapoaaGreatR0
import Derived.Laws.Slices
import Derived.Laws.Tables
set_option linter.unusedVariables false
set_option linter.unusedSimpArgs false
namespace Go.RR
open Go Go.RowKit
section
variable {R : Type} {W : SW} {X : Ctx} {s : AS} {o : Oper} {K : Eff → Option R} {r : R}
section
variable {S : Nat → SV} {H : HF} {σ : Nat → Value} {a : Act} {w : World} {T : Tab}
theorem zC3 (hs : Sub s S H) (h : Sim W S H σ a w) {d i : Int} {x : Option Operand} (hx : bnd T s d x = some i) : (x = none ∧ i = d) ∨ ∃ y k, x = some y ∧ a.eval y = .int k i := by
 cases x with
 | none => simp only [bnd, Option.some.injEq] at hx; exact .inl ⟨rfl, hx.symm⟩
 | some y =>
  obtain ⟨k, hk⟩ := V2 hs h (x := y) hx
  exact .inr ⟨y, k, rfl, hk⟩
theorem zkh (hs : Sub s S H) (hsim : Sim W S H σ a w) (isSlice : Bool) (len cap : Nat) {lo hi : Option Operand} {l h : Int} (hlo : bnd T s 0 lo = some l) (hhi : bnd T s (len : Int) hi = some h)
  (h0 : 0 ≤ l) (h1 : l ≤ h) (h2 : h ≤ (len : Int)) (hc : len ≤ cap) : (Instr.sliceBounds isSlice len cap (lo.map a.eval) (hi.map a.eval) none).run W.P w = .ok (l.toNat, h.toNat, cap) w := by
 have eh : (h.toNat : Int) = h := Int.toNat_of_nonneg (by omega)
 have hh : 0 ≤ h := by omega
 have hcap : h ≤ (cap : Int) := by omega
 rcases zC3 hs hsim hlo with ⟨rfl, rfl⟩ | ⟨y, k, rfl, hy⟩ <;> rcases zC3 hs hsim hhi with ⟨rfl, rfl⟩ | ⟨z, k', rfl, hz⟩
 ·simp [Instr.sliceBounds]
 ·simp [Instr.sliceBounds, hz, run_sliceBound, hh, hcap]
 ·simp [Instr.sliceBounds, hy, run_sliceBound, h0, h1]
 ·simp [Instr.sliceBounds, hy, hz, run_sliceBound, h0, h1, hh, hcap, eh]
end
theorem zxZ {l h : Int} {n : Nat} (hc : inS l h n = true) : 0 ≤ l ∧ l ≤ h ∧ h ≤ (n : Int) := by
 simp only [inS, Bool.and_eq_true, decide_eq_true_eq] at hc
 exact ⟨hc.1.1, hc.1.2, hc.2⟩
theorem zdJ {b : Nat} {x : Blk} (hb : s.blk b = some x) : (lk s.hp b).isSome = true := by
 unfold AS.blk at hb
 cases hq : lk s.hp b with
 | none => rw [hq] at hb; cases hb
 | some _ => rfl
theorem zG6 (hT : yr W.P X.T) (hd : ∀ i, o.dst = some i → i < W.N) {t : Nat} {x : Operand} {lo hi : Option Operand} (ho : o.op = .slice t x lo hi none) (h : zgs X s o t x lo hi K = some r) : ∃ e, K e = some r ∧ ZJ W o s e := by
 unfold zgs at h
 split at h
 ·rename_i z1 z2 z ht hx
  split at h
  ·rename_i l hh hlo hhi
   obtain ⟨hc, h⟩ := zt h
   obtain ⟨d1, e1, u1⟩ := (hT t _ ht).und
   cases d1 <;> simp only [yu] at u1
   refine yQ h hd fun S H σ a w hs hsim => ⟨_, ?_, rfl, rfl⟩
   have h4 := (zP hs hsim hx).1
   obtain ⟨q0, q1, q2⟩ := zxZ hc
   have hb := zkh hs hsim false z.size z.size hlo hhi q0 q1 q2 (Nat.le_refl _)
   simp [execOp, ho, Instr.sliceAt, Instr.slice, yA e1, h4, val, yc, enc, hb]
  ·cases h
 ·rename_i u z1 z2 b ht hx
  split at h
  ·rename_i own e xs ti hb hu
   split at h
   ·rename_i l hh hlo hhi
    obtain ⟨hc, h⟩ := zt h
    simp only [Bool.and_eq_true, Nat.beq_eq] at hc
    obtain ⟨hsz, hin⟩ := hc
    obtain ⟨q0, q1, q2⟩ := zxZ hin
    obtain ⟨d1, e1, u1⟩ := (hT t _ ht).und
    cases d1 <;> simp only [yu] at u1
    subst u1
    refine ⟨_, h, ⟨Nat.le_succ _, fun b' x' hm => ?_⟩, ?_⟩
    ·simp only [List.mem_cons, Prod.mk.injEq, List.not_mem_nil, or_false] at hm
     rcases hm with hm | hm
     ·rw [hm.1]; exact .inl ⟨Nat.le_refl _, Nat.lt_succ_self _⟩
     ·rw [hm.1]; exact .inr (zdJ hb)
    intro S H σ a w hs hf hsim next Q hnx
    have hnew := hf s.n (Nat.le_refl _) (Nat.lt_succ_self _)
    have hbH := hs.blk hb
    have hne : b ≠ s.n := fun e => by rw [e, hnew] at hbH; cases hbH
    have hsim' : Sim W S (z8 H b (some (some ⟨false, .arr e xs⟩))) σ a w := by
     cases own
     ·have : z8 H b (some (some ⟨false, .arr e xs⟩)) = H := by
       funext b'
       by_cases hbb : b' = b
       ·rw [hbb, zl, hbH]
       ·rw [zk _ _ hbb]
      rw [this]; exact hsim
     ·exact hsim.freeze hbH
    have hrep := hsim'.blk b ⟨false, .arr e xs⟩ (zl _ _ _)
    have h4 := (zP hs hsim hx).1
    obtain ⟨cs, ao, cap, g1, g2, g3, g4⟩ := hrep
    have hb' := zkh hs hsim true xs.length cap hlo hhi q0 q1 q2 g3
    have hlh : hh.toNat ≤ xs.length := by omega
    have hll : l.toNat ≤ hh.toNat := by omega
    have hlen : ((xs.take hh.toNat).drop l.toNat).length = hh.toNat - l.toNat := by simp; omega
    have hnew' : z8 H b (some (some ⟨false, .arr e xs⟩)) s.n = none := by rw [zk _ _ (fun e => hne e.symm), hnew]
    have hexec : (execOp a.eval o).run W.P w = .ok (.value (.slice (if cap = l.toNat then ao else ao.map (·.add (l.toNat * ti.sz))) (hh.toNat - l.toNat) (cap - l.toNat))) w := by
     simp [execOp, ho, Instr.sliceAt, Instr.slice, yA e1, h4, w4, g2, hb', Z8 hT hu]
    refine Vq hexec (hnx (z8 σ s.n (.slice (if cap = l.toNat then ao else ao.map (·.add (l.toNat * ti.sz))) (hh.toNat - l.toNat) (cap - l.toNat))) _ _ ?_)
    refine Sim.put ?_ (d := o.dst) (sv := .a (.sl s.n)) hd ⟨by rw [w4, zl], by show (z7 H ((s.n, _) :: [(b, _)]) s.n).isSome = true; simp only [z7, zl]; rfl⟩
    have r1 := g1.take hh.toNat
    have hl1 : (xs.take hh.toNat).length = hh.toNat := by simp; omega
    rw [hl1] at r1
    have r2 := r1.drop l.toNat (by omega)
    have hO : ∀ V g, zY (z8 (z8 H b (some (some ⟨false, .arr e xs⟩))) s.n (some (some ⟨false, .arr e ((xs.take hh.toNat).drop l.toNat)⟩))) (z8 σ s.n V) g → zY (z8 H b (some (some ⟨false, .arr e xs⟩))) σ g := by
     rintro V g ⟨b', c', p1, p2⟩
     by_cases e2 : b' = s.n
     ·rw [e2, zl] at p1; cases p1
     ·rw [zk _ _ e2] at p1 p2
      exact ⟨b', c', p1, p2⟩
    refine hsim'.new (blk := ⟨false, .arr e ((xs.take hh.toNat).drop l.toNat)⟩) rfl rfl rfl (Nat.le_refl _) (fun g hg => rfl) hnew' rfl (fun h => by cases h) ⟨_, _, _, r2.imp fun k l' v hv => hv.keep (Nat.le_refl _) fun g hg hO' => ⟨rfl, fun ho' => hO' (hO _ g ho')⟩, by rw [hlen], by rw [hlen]; omega, fun hne' => ?_⟩
    have hpos : 0 < hh.toNat - l.toNat := by
     rw [← hlen]
     exact List.length_pos_iff.2 hne'
    obtain ⟨g, o', p1, p2, p3, p4⟩ := g4 (by rintro rfl; simp at hlh; omega)
    refine ⟨g, o' + l.toNat * ti.sz, by rw [if_neg (by omega), p1, Option.map_some, Addr.add_lit], p2, fun ho' => p3 (hO _ g ho'), fun j v hj => ?_⟩
    rw [List.getElem?_drop, List.getElem?_take] at hj
    split at hj
    ·have := p4 _ _ hj
     rw [hsz, Nat.add_assoc]
     exact this
    ·cases hj
   ·cases h
  ·cases h
 ·cases h
theorem zCK : ∀ (xs : List Value) (k off : Nat) (u mid v : List Value), mid.length = xs.length → u.length = off + k → (xs.zipIdx k).foldl (fun (cs : Array Value) (p : Value × Nat) => cs.setIfInBounds (off + p.2) p.1) (u ++ mid ++ v).toArray = (u ++ xs ++ v).toArray
 | [], k, off, u, mid, v, hm, hu => by
  have : mid = [] := List.eq_nil_of_length_eq_zero hm
  subst this; rfl
 | x :: xs, k, off, u, [], v, hm, hu => by cases hm
 | x :: xs, k, off, u, m :: mid, v, hm, hu => by
  rw [List.zipIdx_cons, List.foldl_cons]
  have h1 : (u ++ m :: mid ++ v).toArray.setIfInBounds (off + k) x = ((u ++ [x]) ++ mid ++ v).toArray := by
   rw [← hu]
   apply Array.toList_inj.1
   simp
  have := zCK xs (k + 1) off (u ++ [x]) mid v (by simpa using hm) (by simp; omega)
  simp only [h1]
  rw [this]
  simp
theorem Vp {place : Nat → Option (Nat × Nat)} {u mid v c : List Value} {i off size : Nat} {x : Value} {rest : List (Nat × Value)} (hp : place i = some (off, size)) (hx : x.cells = c.toArray) (hc : c.length = size) (hm : mid.length = c.length) (hu : u.length = off) :
  Instr.fill place (u ++ mid ++ v).toArray ((i, x) :: rest) = Instr.fill place (u ++ c ++ v).toArray rest := by
 simp only [Instr.fill, hp]
 rw [if_neg (by simp [hx, hc, hm, hu])]
 congr 1
 rw [hx, ← Array.foldl_toList, Array.toList_zipIdx]
 exact zCK c 0 off u mid v hm (by omega)
section
variable {S : Nat → SV} {H : HF} {σ : Nat → Value} {a : Act} {w : World} {T : Tab}
def zhC (s : AS) (b : Nat) (k : IntKind) (l : List Int) : Prop := s.blk b = some ⟨true, .arr (.one (.i k)) l⟩
def zD6 (s : AS) (b : Nat) (k : IntKind) (l : List Int) : Prop := s.blk b = some ⟨false, .arr (.one (.i k)) l⟩
theorem ztD {wk : Bool} {e : ET} {b : A} {y : e.den} {cs : List Nat} (h : elA s wk e b = some (y, cs)) :
  (∀ b' ∈ cs, ∃ k l, zhC s b' k l) ∧ ∀ (I : Inn) (σ : Nat → Value), (∀ b' ∈ cs, ∀ k l, zhC s b' k l → I k l (σ b')) → (wk = true → ∀ b' k l, zD6 s b' k l → I k l (σ b')) → (∀ k, I k [] (.slice none 0 0)) → ElC I e y (enc σ b) := by
 have flat : ∀ e' : ET, ∀ y' : e'.den, (match e'.ofA b with
  | some y => some (y, [])
  | none => none) = some (y', cs) → (∀ b' ∈ cs, ∃ k l, zhC s b' k l) ∧ ∀ (I : Inn) (σ : Nat → Value), (∀ b' ∈ cs, ∀ k l, zhC s b' k l → I k l (σ b')) → (wk = true → ∀ b' k l, zD6 s b' k l → I k l (σ b')) → (∀ k, I k [] (.slice none 0 0)) → ElC I e' y' (enc σ b) := by
  intro e' y' h
  split at h
  ·rename_i z hz
   obtain ⟨h1, h2⟩ := Prod.mk.inj (Option.some.inj h)
   subst h1 h2
   exact ⟨fun b' hb' => (nomatch hb'), fun I σ _ _ _ => ElC.ofA σ hz⟩
  ·cases h
 cases e with
 | st ts => exact flat _ _ h
 | one t =>
  cases t with
  | ls k =>
   replace h : zNM s wk k b = some (y, cs) := h
   unfold zNM at h
   split at h
   ·obtain ⟨h1, h2⟩ := Prod.mk.inj (Option.some.inj h)
    have h1 : y = ([] : List Int) := h1.symm
    subst h1 h2
    exact ⟨fun b' hb' => (nomatch hb'), fun I σ _ _ hn => ⟨_, rfl, hn k⟩⟩
   ·rename_i b0
    split at h
    ·rename_i k' l hb
     obtain ⟨hk, h⟩ := zt h
     replace hk := XQ hk
     subst hk
     obtain ⟨h1, h2⟩ := Prod.mk.inj (Option.some.inj h)
     have h1 : y = l := h1.symm
     subst h1 h2
     refine ⟨fun b' hb' => ?_, fun I σ hI _ _ => ⟨σ b0, rfl, hI b0 (by simp) _ _ hb⟩⟩
     simp only [List.mem_singleton] at hb'
     subst hb'
     exact ⟨_, _, hb⟩
    ·rename_i k' l hb
     obtain ⟨hk, h⟩ := zt h
     rw [Bool.and_eq_true] at hk
     obtain ⟨hwk, hk⟩ := hk
     replace hk := XQ hk
     subst hk
     obtain ⟨h1, h2⟩ := Prod.mk.inj (Option.some.inj h)
     have h1 : y = l := h1.symm
     subst h1 h2
     exact ⟨fun b' hb' => (nomatch hb'), fun I σ _ hI _ => ⟨σ b0, rfl, hI hwk b0 _ _ hb⟩⟩
    ·cases h
   ·cases h
  | _ => exact flat _ _ h
theorem zge {wk : Bool} {u : Nat} {e : ET} : ∀ (ps : List (Nat × Operand)) (z l : List e.den) (bs bF : List Nat), zhy T s wk u ps z bs = some (l, bF) → (∀ b ∈ bs, b ∈ bF) ∧ ((∀ b ∈ bs, ∃ k l, zhC s b k l) → ∀ b ∈ bF, ∃ k l, zhC s b k l)
 | [], z, l, bs, bF, h => by
  simp only [zhy, Option.some.injEq, Prod.mk.injEq] at h
  obtain ⟨_, rfl⟩ := h
  exact ⟨fun b hb => hb, fun hb => hb⟩
 | (i, x) :: ps, z, l, bs, bF, h => by
  simp only [zhy] at h
  split at h
  ·split at h
   ·rename_i y cs hy
    obtain ⟨_, h⟩ := zt h
    obtain ⟨h1, h2⟩ := zge ps _ l _ bF h
    refine ⟨fun b hb => h1 b (List.mem_append.2 (.inr hb)), fun hb => h2 fun b hb' => ?_⟩
    rcases List.mem_append.1 hb' with hb' | hb'
    ·exact (ztD hy).1 b hb'
    ·exact hb b hb'
   ·cases h
  ·cases h
theorem zyQ (hs : Sub s S H) (hsim : Sim W S H σ a w) {I : Inn} (hn : ∀ k, I k [] (.slice none 0 0)) {wk : Bool} {u : Nat} {e : ET} (hold : wk = true → ∀ b k l, zD6 s b k l → I k l (σ b)) : ∀ (ps : List (Nat × Operand)) (z l : List e.den) (bs bF : List Nat) (xs : List Value), zhy T s wk u ps z bs = some (l, bF) →
  (∀ b ∈ bF, ∀ k l, zhC s b k l → I k l (σ b)) → zN I e z xs →
  ∃ ys, Instr.fill (fun i => some (i * e.sz, e.sz)) xs.toArray (ps.map fun p => (p.1, a.eval p.2)) = some ys.toArray ∧ zN I e l ys ∧ l.length = z.length
 | [], z, l, bs, bF, xs, h, hI, hr => by
  simp only [zhy, Option.some.injEq, Prod.mk.injEq] at h
  obtain ⟨rfl, _⟩ := h
  exact ⟨xs, rfl, hr, rfl⟩
 | (i, x) :: ps, z, l, bs, bF, xs, h, hI, hr => by
  simp only [zhy] at h
  split at h
  ·rename_i b hb
   split at h
   ·rename_i y cs hy
    obtain ⟨hi, h⟩ := zt h
    have hi : i < z.length := Nat.le_of_ble_eq_true hi
    obtain ⟨u1, c, v1, rfl, hul, hc, hset⟩ := hr.get i hi
    have hv := zP hs hsim hb
    have hcs : ∀ b' ∈ cs, b' ∈ bF := fun b' hb' => (zge ps _ l _ bF h).1 b' (List.mem_append.2 (.inl hb'))
    have hy' := (ztD hy).2 I σ (fun b' hb' => hI b' (hcs b' hb')) hold hn
    obtain ⟨ys, h1, h2, h3⟩ := zyQ hs hsim hn hold ps (z.set i y) l _ bF _ h hI (hset y (enc σ b) hy')
    refine ⟨ys, ?_, h2, by rw [h3, List.length_set]⟩
    rw [List.map_cons, ← h1]
    exact Vp rfl (by rw [hv.1]; exact Yl hsim.one hv.2) hy'.len (by rw [hc.len, hy'.len]) hul
   ·cases h
  ·cases h
theorem uK : ∀ (bs : List Nat) (b : Nat), b ∉ bs → z7 H (Vt s bs) b = H b
 | [], _, _ => rfl
 | c :: bs, b, hb => by
  show z8 (z7 H (Vt s bs)) c _ b = H b
  rw [zk _ _ (fun e => hb (by simp [e])), uK bs b (fun h => hb (by simp [h]))]
theorem zC0 : ∀ (bs : List Nat) (b : Nat), b ∈ bs → ∀ o c, s.blk b = some ⟨o, c⟩ → z7 H (Vt s bs) b = some (some ⟨false, c⟩)
 | [], _, hb, _, _, _ => (nomatch hb)
 | d :: bs, b, hb, o, c, h => by
  show z8 (z7 H (Vt s bs)) d _ b = _
  by_cases e : b = d
  ·subst e
   rw [zl, h]
  ·rw [zk _ _ e]
   exact zC0 bs b (by simpa [e] using hb) o c h
theorem zvq : ∀ (bs : List Nat) (b : Nat) (x : Option Blk), (b, x) ∈ Vt s bs → b ∈ bs
 | [], _, _, h => (nomatch h)
 | c :: bs, b, x, h => by
  rcases List.mem_cons.1 h with h | h
  ·simp only [Prod.mk.injEq] at h
   simp [h.1]
  ·simp [zvq bs b x h]
theorem Sim.frozen (hs : Sub s S H) (hsim : Sim W S H σ a w) : ∀ bs : List Nat, bs.Nodup → (∀ b ∈ bs, ∃ c, s.blk b = some ⟨true, c⟩) → Sim W S (z7 H (Vt s bs)) σ a w
 | [], _, _ => hsim
 | b :: bs, hnd, hb => by
  obtain ⟨h1, h2⟩ := List.nodup_cons.1 hnd
  have ih := Sim.frozen hs hsim bs h2 fun b' hb' => hb b' (by simp [hb'])
  obtain ⟨c, hc⟩ := hb b (by simp)
  have : z7 H (Vt s (b :: bs)) = z8 (z7 H (Vt s bs)) b (some (some ⟨false, c⟩)) := by
   show z8 (z7 H (Vt s bs)) b _ = _
   rw [hc]
  rw [this]
  exact ih.freeze (c := c) (by rw [uK bs b h1]; exact hs.blk hc)
theorem zno (hs : Sub s S H) (hsim : Sim W S H σ a w) {bs : List Nat} (hb : ∀ b ∈ bs, ∃ c, s.blk b = some ⟨true, c⟩) {g : Nat} (h : zY (z7 H (Vt s bs)) σ g) : zY H σ g ∧ ∀ b ∈ bs, yq (σ b) ≠ some g := by
 obtain ⟨b', c', p1, p2⟩ := h
 by_cases hm : b' ∈ bs
 ·obtain ⟨c, hc⟩ := hb b' hm
  rw [zC0 bs b' hm _ _ hc] at p1
  cases p1
 ·rw [uK bs b' hm] at p1
  refine ⟨⟨b', c', p1, p2⟩, fun b hbm => ?_⟩
  obtain ⟨c, hc⟩ := hb b hbm
  exact hsim.sep b' b c' c p1 (hs.blk hc) (fun e => hm (e ▸ hbm)) g p2
theorem zIW (hs : Sub s S H) (hsim : Sim W S H σ a w) {bs : List Nat} (hb : ∀ b ∈ bs, ∃ c, s.blk b = some ⟨true, c⟩) {b : Nat} (hm : b ∈ bs) {k : IntKind} {l : List Int} (h : zhC s b k l) : Yr w (zY (z7 H (Vt s bs)) σ) W.lo k l (σ b) := by
 obtain ⟨xs, hr, ho⟩ := hsim.blk b _ (hs.blk h)
 have hx := VC hr
 have ho : YL W w (σ b) 1 l.length xs := ho
 rcases ho with ⟨hn, ao, hv⟩ | ⟨g, cap, cur, ty, hv, hM, hc, hg, h1, h2, h3, h4⟩
 ·exact ⟨ao, 0, by rw [hv, hn], by omega, fun hl => absurd (List.eq_nil_of_length_eq_zero hn) hl⟩
 ·refine ⟨some ⟨g, 0, none⟩, cap, hv, h1, fun _ => ⟨g, 0, rfl, W.hL g hM, (Array.getElem?_eq_some_iff.1 hg).1, fun ho => (zno hs hsim hb ho).2 b hm ?_, ?_⟩⟩
  ·rw [hv]; simp [yq]; omega
  ·rw [← hx]; exact YZ.of_heap hg h4
theorem zSa (hs : Sub s S H) (hsim : Sim W S H σ a w) {bs : List Nat} (hb : ∀ b ∈ bs, ∃ c, s.blk b = some ⟨true, c⟩) {b : Nat} {k : IntKind} {l : List Int} (h : zD6 s b k l) : Yr w (zY (z7 H (Vt s bs)) σ) 0 k l (σ b) := by
 obtain ⟨xs, ao, cap, hr, hv, hc, hl⟩ := hsim.blk b _ (hs.blk h)
 have hx := VC hr
 refine ⟨ao, cap, hv, hc, fun hne => ?_⟩
 obtain ⟨g, o, e, hg, hO, hlie⟩ := hl hne
 exact ⟨g, o, e, Nat.zero_le _, hg, fun ho => hO (zno hs hsim hb ho).1, by rw [← hx]; exact hlie⟩
theorem zyc (hs : Sub s S H) (hsim : Sim W S H σ a w) {u n : Nat} {k : IntKind} : ∀ (ps : List (Nat × Operand)) (f g : Nat → Int), zsZ T s u n k ps f = some g →
  Instr.fill (fun i => some (i * 1, 1)) (enc σ (.fa n k f)).toArray (ps.map fun p => (p.1, a.eval p.2)) = some (enc σ (.fa n k g)).toArray
 | [], f, g, h => by
  simp only [zsZ, Option.some.injEq] at h
  subst h; rfl
 | (i, x) :: ps, f, g, h => by
  simp only [zsZ] at h
  split at h
  ·rename_i k' y hb
   obtain ⟨hc, h2⟩ := zt h
   simp only [Bool.and_eq_true] at hc
   obtain ⟨hk, hi⟩ := hc
   have := XQ hk
   subst this
   have hi : i < n := Nat.le_of_ble_eq_true hi
   have hv := zP hs hsim hb
   rw [List.map_cons, ← zyc hs hsim ps (upd f i y) g h2]
   simp only [enc]
   rw [Zh _ hi, zCx k f y hi]
   exact Vp rfl (by rw [hv.1]; rfl) rfl rfl (by simp)
  ·cases h
theorem zy7 (hs : Sub s S H) (hsim : Sim W S H σ a w) {u n : Nat} : ∀ (ps : List (Nat × Operand)) (f g : Nat → Bool), zvR T s u n ps f = some g →
  Instr.fill (fun i => some (i * 1, 1)) (enc σ (.fb n f)).toArray (ps.map fun p => (p.1, a.eval p.2)) = some (enc σ (.fb n g)).toArray
 | [], f, g, h => by
  simp only [zvR, Option.some.injEq] at h
  subst h; rfl
 | (i, x) :: ps, f, g, h => by
  simp only [zvR] at h
  split at h
  ·rename_i y hb
   obtain ⟨hi, h⟩ := zt h
   have hi : i < n := Nat.le_of_ble_eq_true hi
   have hv := zP hs hsim hb
   rw [List.map_cons, ← zy7 hs hsim ps (Xt f i y) g h]
   simp only [enc]
   rw [Zh _ hi, zsT f y hi]
   exact Vp rfl (by rw [hv.1]; rfl) rfl rfl (by simp)
  ·cases h
theorem ztj (hs : Sub s S H) (hsim : Sim W S H σ a w) {u n m : Nat} {k : IntKind} : ∀ (ps : List (Nat × Operand)) (f g : Nat → Nat → Int), zx5 T s u n m k ps f = some g →
  Instr.fill (fun i => some (i * m, m)) (enc σ (.fa2 n m k f)).toArray (ps.map fun p => (p.1, a.eval p.2)) = some (enc σ (.fa2 n m k g)).toArray
 | [], f, g, h => by
  simp only [zx5, Option.some.injEq] at h
  subst h; rfl
 | (i, x) :: ps, f, g, h => by
  simp only [zx5] at h
  split at h
  ·rename_i m' k' y hb
   obtain ⟨hc, h2⟩ := zt h
   simp only [Bool.and_eq_true] at hc
   obtain ⟨⟨hk, hmm⟩, hi⟩ := hc
   have := XQ hk
   subst this
   have hmm := Nat.eq_of_beq_eq_true hmm
   subst hmm
   have hi : i < n := Nat.le_of_ble_eq_true hi
   have hv := zP hs hsim hb
   have hle : i * m + m ≤ n * m := by rw [← Nat.succ_mul]; exact Nat.mul_le_mul_right _ hi
   rw [List.map_cons, ← ztj hs hsim ps (Wg f i y) g h2]
   simp only [enc]
   rw [zgF (fun j => Value.int k (f (j / m) (j % m))) hle, zz0 k f y hi]
   exact Vp rfl (by rw [hv.1]; rfl) (by simp) (by simp) (by simp)
  ·cases h
theorem zwB (hs : Sub s S H) (hsim : Sim W S H σ a w) {fs : List (Nat × Nat)} : ∀ (ps : List (Nat × Operand)) (as bs : List A), zxf T s fs ps as = some bs → WfL H as → WfL H bs ∧
  ∀ place : Nat → Option (Nat × Nat), (∀ i d u ti, fs[i]? = some (d, u) → lk T u = some ti → place i = some (d, ti.sz)) → Instr.fill place (yX σ as).toArray (ps.map fun p => (p.1, a.eval p.2)) = some (yX σ bs).toArray
 | [], as, bs, h, hw => by
  simp only [zxf, Option.some.injEq] at h
  subst h; exact ⟨hw, fun _ _ => rfl⟩
 | (i, x) :: ps, as, bs, h, hw => by
  simp only [zxf] at h
  split at h
  ·rename_i d u b hf hb
   split at h
   ·rename_i ti y hti hy
    obtain ⟨hc, h⟩ := zt h
    simp only [Bool.and_eq_true, Nat.beq_eq] at hc
    obtain ⟨⟨hcp, hoff⟩, hsz⟩ := hc
    have hv := zP hs hsim hy
    have hw' : WfL H (as.set i y) := zgo fun c hc => by
     rcases List.mem_or_eq_of_mem_set hc with hc | rfl
     ·exact xR hw c hc
     ·exact hv.2
    obtain ⟨h1, h2⟩ := zwB hs hsim ps (as.set i y) bs h hw'
    refine ⟨h1, fun place hp => ?_⟩
    rw [List.map_cons, ← h2 place hp]
    have e1 : yX σ as = yX σ (as.take i) ++ enc σ b ++ yX σ (as.drop (i + 1)) := by
     conv => lhs; rw [zdu hb]
     rw [wh]
     simp only [yX, List.append_assoc]
    have e2 : yX σ (as.set i y) = yX σ (as.take i) ++ enc σ y ++ yX σ (as.drop (i + 1)) := by
     rw [ztl hb, wh]
     simp only [yX, List.append_assoc]
    rw [e1, e2]
    exact Vp (hp i d u ti hf hti) (by rw [hv.1]; exact Yl hsim.one hv.2) (by rw [y7, hsz]) (by rw [y7, y7, zbu _ _ hcp]) (by rw [zaT, hoff])
   ·cases h
  ·cases h
end
theorem zxg {T : Tab} : ∀ {fs : List (Nat × Nat)} {d : Nat} {as : List A}, zam T d fs = some as → ∀ p ∈ fs, ∃ ti, lk T p.2 = some ti
 | [], d, as, h, p, hp => by cases hp
 | (o, t) :: fs, d, as, h, p, hp => by
  cases d with
  | zero => simp only [zam] at h; cases h
  | succ d =>
   simp only [zam] at h
   split at h
   ·rename_i a as' ha has
    rcases List.mem_cons.1 hp with rfl | hp
    ·cases d with
     | zero => simp only [ZF] at ha; cases ha
     | succ d =>
      cases hl : lk T t with
      | some ti => exact ⟨ti, rfl⟩
      | none => simp only [ZF, hl] at ha; cases ha
    ·exact zxg has p hp
   ·cases h
theorem zbh (ps : Array (Nat × Operand)) (a : Act) : (ps.map fun (i, x) => (i, a.eval x)).toList = ps.toList.map fun p => (p.1, a.eval p.2) := by simp
theorem zpP (hT : yr W.P X.T) : ∀ (fields : List Field), (∀ f ∈ fields, ∃ ti, lk X.T f.type = some ti) →
  ∃ pl : List (Nat × Nat), fields.mapM (fun f => (W.P.info? f.type).map fun i => (f.offset, i.size)) = some pl ∧ ∀ i d u ti, (fields.map fun f => (f.offset, f.type))[i]? = some (d, u) → lk X.T u = some ti → (pl : List (Nat × Nat))[(i : Nat)]? = some (d, TI.sz ti)
 | [], _ => ⟨[], rfl, fun i d u ti h => by cases i <;> cases h⟩
 | f :: fields, h => by
  obtain ⟨ti, hti⟩ := h f (by simp)
  obtain ⟨g, hg1, hg2, _⟩ := (hT f.type ti hti).inf
  obtain ⟨pl, h1, h2⟩ := zpP hT fields fun f' hf' => h f' (by simp [hf'])
  refine ⟨(f.offset, g.size) :: pl, by simp [List.mapM_cons, hg1, h1], fun i d u ti' hi hu => ?_⟩
  cases i with
  | zero =>
   simp only [List.map_cons, List.getElem?_cons_zero, Option.some.injEq, Prod.mk.injEq] at hi
   obtain ⟨rfl, rfl⟩ := hi
   rw [hti] at hu; cases hu
   rw [List.getElem?_cons_zero, hg2]
  | succ i =>
   rw [List.getElem?_cons_succ]
   exact h2 i d u ti' (by simpa using hi) hu
theorem zJP (hT : yr W.P X.T) (hd : ∀ i, o.dst = some i → i < W.N) {t : Nat} {ps : Array (Nat × Operand)} (ho : o.op = .build t ps) (h : zgB X s o t ps.toList K = some r) : ∃ e, K e = some r ∧ ZJ W o s e := by
 have fin : ∀ {z y : A} {ti : TI}, lk X.T t = some ti → ZF X.T 16 t = some z → yc y = true → ret s o y K = some r → (∀ S H σ a w, Sub s S H → Sim W S H σ a w → WfA H y ∧ ∀ zv, zv.cells = (enc σ z).toArray → (∀ f, W.P.info? t = some f → f.zero = some zv) → W.P.built t (ps.toList.map fun p => (p.1, a.eval p.2)) = some (enc σ y).toArray) → ∃ e, K e = some r ∧ ZJ W o s e := by
  intro z y ti ht hz hag hk hbuilt
  refine yQ hk hd fun S H σ a w hs hsim => ?_
  obtain ⟨h1, h2⟩ := hbuilt S H σ a w hs hsim
  obtain ⟨f, hf, hf1, hf2, hf3⟩ := (hT t ti ht).inf
  obtain ⟨hz1, hz2⟩ := hf3 z hz
  have hz1' : f.zero = some (val σ z) := by rw [hz1]; exact congrArg some (YW hz2 _)
  have hzc := Yl hsim.one (hz2 H)
  have hrun := run_build (P := W.P) w t (ps.map fun (i, x) => (i, a.eval x)) _ (by rw [zbh]; exact h2 _ hzc (fun f' hf' => by rw [hf] at hf'; cases hf'; exact hz1'))
  exact ⟨val σ y, by simp only [execOp, ho, hrun, Sem.run_bind, Result.andThen_ok, Sem.run_pure, uR hag], rfl, h1⟩
 unfold zgB at h
 split at h
 ·rename_i fs sz by_ as ht hz
  split at h
  ·rename_i bs hbs
   refine fin ht hz rfl h fun S H σ a w hs hsim => ?_
   obtain ⟨f, hf, hf1, hf2, hf3⟩ := (hT t _ ht).inf
   obtain ⟨hz1, hz2⟩ := hf3 _ hz
   obtain ⟨h1, h2⟩ := zwB hs hsim ps.toList as bs hbs (hz2 H)
   refine ⟨h1, fun zv hzv hzf => ?_⟩
   obtain ⟨dd, e1, u1⟩ := (hT t _ ht).und
   cases dd <;> simp only [yu] at u1
   rename_i fields
   have hzl : zam X.T 15 fs = some as := by
    simp only [ZF, ht] at hz
    split at hz
    ·rename_i as' has
     cases hz; exact has
    ·cases hz
   obtain ⟨pl, hpl, hpl2⟩ := zpP (X := X) hT fields.toList fun f' hf' => zxg hzl (f'.offset, f'.type) (by rw [← u1]; exact List.mem_map_of_mem hf')
   unfold Program.built
   simp only [hf, e1, hzf f hf, hpl]
   rw [hzv]
   exact h2 _ fun i d u ti hi hu => by
    rw [← u1] at hi
    rw [List.getElem?_toArray]
    exact hpl2 i d u ti hi hu
  ·cases h
 ·rename_i n0 e0 sz by_ n k f0 ht hz
  split at h
  ·rename_i ti g hti hg
   obtain ⟨h1, h⟩ := zt h
   have h1 : ti.sz = 1 := Nat.eq_of_beq_eq_true h1
   refine fin ht hz rfl h fun S H σ a w hs hsim => ⟨trivial, fun zv hzv hzf => ?_⟩
   obtain ⟨dd, e1, u1⟩ := (hT t _ ht).und
   cases dd <;> simp only [yu] at u1
   obtain ⟨rfl, rfl⟩ := u1
   obtain ⟨f, hf, _⟩ := (hT t _ ht).inf
   obtain ⟨f', hf', hs', _⟩ := (hT _ _ hti).inf
   unfold Program.built
   simp only [hf, e1, hzf f hf, hf']
   rw [hzv, hs', h1]
   exact zyc hs hsim ps.toList f0 g hg
  ·cases h
 ·rename_i n0 e0 sz by_ n f0 ht hz
  split at h
  ·rename_i ti g hti hg
   obtain ⟨h1, h⟩ := zt h
   have h1 : ti.sz = 1 := Nat.eq_of_beq_eq_true h1
   refine fin ht hz rfl h fun S H σ a w hs hsim => ⟨trivial, fun zv hzv hzf => ?_⟩
   obtain ⟨dd, e1, u1⟩ := (hT t _ ht).und
   cases dd <;> simp only [yu] at u1
   obtain ⟨rfl, rfl⟩ := u1
   obtain ⟨f, hf, _⟩ := (hT t _ ht).inf
   obtain ⟨f', hf', hs', _⟩ := (hT _ _ hti).inf
   unfold Program.built
   simp only [hf, e1, hzf f hf, hf']
   rw [hzv, hs', h1]
   exact zy7 hs hsim ps.toList f0 g hg
  ·cases h
 ·rename_i n0 e0 sz by_ n m k f0 ht hz
  split at h
  ·rename_i ti g hti hg
   obtain ⟨h1, h⟩ := zt h
   have h1 : ti.sz = m := Nat.eq_of_beq_eq_true h1
   refine fin ht hz rfl h fun S H σ a w hs hsim => ⟨trivial, fun zv hzv hzf => ?_⟩
   obtain ⟨dd, e1, u1⟩ := (hT t _ ht).und
   cases dd <;> simp only [yu] at u1
   obtain ⟨rfl, rfl⟩ := u1
   obtain ⟨f, hf, _⟩ := (hT t _ ht).inf
   obtain ⟨f', hf', hs', _⟩ := (hT _ _ hti).inf
   unfold Program.built
   simp only [hf, e1, hzf f hf, hf']
   rw [hzv, hs', h1]
   exact ztj hs hsim ps.toList f0 g hg
  ·cases h
 ·cases h
theorem znE (hT : yr W.P X.T) (hwk : X.weak = true → W.lo = 0) (hd : ∀ i, o.dst = some i → i < W.N) {t m : Nat} {ps : Array (Nat × Operand)} (ho : o.op = .buildSlice t m ps) (h : YY X s o t m ps.toList K = some r) : ∃ e, K e = some r ∧ ZJ W o s e := by
 unfold YY at h
 split at h
 ·rename_i u sz by_ ht
  split at h
  ·rename_i e ti z he hu hz
   split at h
   ·rename_i l bs hl
    obtain ⟨hc, hk⟩ := zt h
    simp only [Bool.and_eq_true] at hc
    obtain ⟨⟨⟨hft, hpos⟩, hle⟩, hnd⟩ := hc
    have hpos : 0 < ti.sz := Nat.le_of_ble_eq_true hpos
    have hle : m * ti.sz ≤ 65536 := Nat.le_of_ble_eq_true hle
    have hnd := Z7 _ hnd
    have hbs := (zge ps.toList _ l [] bs hl).2 (fun b hb => (nomatch hb))
    have hbs' : ∀ b ∈ bs, ∃ c, s.blk b = some ⟨true, c⟩ := fun b hb => by
     obtain ⟨k, l', h⟩ := hbs b hb
     exact ⟨_, h⟩
    refine ⟨_, hk, ⟨Nat.le_succ _, fun b' x' hm => ?_⟩, ?_⟩
    ·rcases List.mem_cons.1 hm with hm | hm
     ·simp only [Prod.mk.injEq] at hm
      rw [hm.1]; exact .inl ⟨Nat.le_refl _, Nat.lt_succ_self _⟩
     ·obtain ⟨c, hc⟩ := hbs' b' (zvq bs b' x' hm)
      exact .inr (zdJ hc)
    intro S H σ a w hs hfr hsim next Q hnx
    have hnew0 := hfr s.n (Nat.le_refl _) (Nat.lt_succ_self _)
    have hnew : z7 H (Vt s bs) s.n = none := by
     rw [uK bs s.n fun hm => ?_]
     ·exact hnew0
     ·obtain ⟨c, hc⟩ := hbs' s.n hm
      have := hs.blk hc
      rw [hnew0] at this; cases this
    have hsim1 := Sim.frozen hs hsim bs hnd hbs'
    obtain ⟨f, hf, hf1, hf2, hf3⟩ := (hT u ti hu).inf
    obtain ⟨hz1, hz2⟩ := hf3 z hz
    obtain ⟨d, hd1, hd2⟩ := (hT t _ ht).und
    have hund : W.P.underlying t = some (.slice u) := by
     cases d <;> simp [yu] at hd2
     rw [hd1, hd2]
    have hzc := Yl (σ := fun _ => .bool false) (fun _ => rfl) (hz2 H)
    have hz1' : f.zero = some (val (fun _ => .bool false) z) := by rw [hz1]; exact congrArg some (YW hz2 _)
    obtain ⟨ti', hti', hsz, _⟩ := YT hft
    rw [hu] at hti'; cases hti'
    have hlen : (enc (fun _ => .bool false) z).length = ti.sz := by rw [y7, hsz]
    have hel : ElC (Yr w (zY (z7 H (Vt s bs)) σ) W.lo) e e.dflt (enc (fun _ => .bool false) z) := zeK he hz
    have hesz : ti.sz = e.sz := by rw [← hlen]; exact hel.len
    have hcells := zpl (enc (fun _ => .bool false) z) ti.sz hlen m
    obtain ⟨ys, h1, h2, h3⟩ := zyQ hs hsim (I := Yr w (zY (z7 H (Vt s bs)) σ) W.lo) (fun k => zyC) (fun hw b k l' h => by rw [hwk hw]; exact zSa hs hsim hbs' h) ps.toList _ l _ bs _ hl (fun b hb k l' h => zIW hs hsim hbs' hb h) (zN.rep hel m)
    rw [List.length_replicate] at h3
    have hysl : ys.length = m * ti.sz := by rw [h2.len, h3, hesz]
    rw [← hcells, ← hesz] at h1
    have hrun : (Instr.buildSlice t m (ps.map fun (i, x) => (i, a.eval x))).run W.P w = .ok (.slice (some ⟨w.heap.size, 0, none⟩) m m) (w.alloc (.cells ys.toArray u)) := by
     have h1' : Instr.fill (fun i => some (i * ti.sz, ti.sz)) (madeCells (enc (fun _ => .bool false) z).toArray (m * ti.sz)) (ps.map fun (i, x) => (i, a.eval x)).toList = some ys.toArray := by
      rw [zbh]; exact h1
     unfold madeCells at h1'
     have hnl : ¬ (2 ^ 24 < m * ti.sz) := by omega
     by_cases hm : m * ti.sz = 0
     ·have h1'' : Instr.fill (fun i => some (i * ti.sz, ti.sz)) #[] (ps.map fun (i, x) => (i, a.eval x)).toList = some ys.toArray := by
       rw [hm] at h1'
       simpa [Array.range_zero'] using h1'
      rw [zbh] at h1''
      simp only [Instr.buildSlice, yA hund, Sem.run_bind, Result.andThen_ok, Z8 hT hu, hm]
      simp [Array.range_zero', h1'', newRow]
     ·rw [zbh] at h1'
      simp at h1'
      simp only [Instr.buildSlice, yA hund, Sem.run_bind, Result.andThen_ok, Z8 hT hu]
      simp [zeroValue, typeInfo, hf, hz1', hzc, hm, hnl, h1', newRow]
    have hO : ∀ g, g < w.heap.size → zY (z8 (z7 H (Vt s bs)) s.n (some (some ⟨true, .arr e l⟩))) (z8 σ s.n (.slice (some ⟨w.heap.size, 0, none⟩) m m)) g → zY (z7 H (Vt s bs)) σ g := by
     rintro g hg ⟨b', c', p1, p2⟩
     by_cases e2 : b' = s.n
     ·rw [e2, zl] at p2
      simp only [yq] at p2
      split at p2
      ·cases p2
      ·cases p2; exact absurd hg (Nat.lt_irrefl _)
     ·rw [zk _ _ e2] at p1 p2
      exact ⟨b', c', p1, p2⟩
    have hexec : (execOp a.eval o).run W.P w = .ok (.value (.slice (some ⟨w.heap.size, 0, none⟩) m m)) (w.alloc (.cells ys.toArray u)) := by
     simp only [execOp, ho, hrun, Sem.run_bind, Result.andThen_ok, Sem.run_pure]
    refine Vq hexec (hnx (z8 σ s.n (.slice (some ⟨w.heap.size, 0, none⟩) m m)) _ _ ?_)
    refine Sim.put ?_ (d := o.dst) (sv := .a (.sl s.n)) hd ⟨by rw [w4, zl], by show (z8 (z7 H (Vt s bs)) s.n _ s.n).isSome = true; rw [zl]; rfl⟩
    refine hsim1.new (w' := w.alloc (.cells ys.toArray u)) (v := .slice (some ⟨w.heap.size, 0, none⟩) m m) (blk := ⟨true, .arr e l⟩) rfl rfl rfl (by simp) (fun g hg => Below.heap_alloc w _ g hg) hnew rfl (fun _ g hg => ?_) ⟨ys, h2.imp fun k l' v hv => hv.keep (by simp) fun g hg hO' => ⟨Below.heap_alloc w _ g hg, fun ho' => hO' (hO g hg ho')⟩, ?_⟩
    ·simp only [yq] at hg
     split at hg
     ·cases hg
     ·cases hg; exact Nat.le_refl _
    ·rw [h3]
     by_cases hm0 : m = 0
     ·exact .inl ⟨hm0, _, by rw [hm0]⟩
     ·have hmm : m ≤ 65536 := Nat.le_trans (Nat.le_mul_of_pos_right _ hpos) hle
      refine .inr ⟨w.heap.size, m, _, u, rfl, W.hM _ hsim.bel.size, by omega, Go.heap_alloc_new w _, Nat.le_refl _, by simp only [maxLen]; omega, ?_, ?_⟩
      ·simp [hysl, hesz]
      ·rw [← hesz]
       exact List.take_of_length_le (by simp [hysl])
   ·cases h
  ·cases h
 ·cases h
end
end Go.RR
