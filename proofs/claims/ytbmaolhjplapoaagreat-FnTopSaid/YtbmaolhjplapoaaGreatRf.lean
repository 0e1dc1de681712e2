/- The operations, further: those that read, that lead to places, that make values. No condition. -/
import Derived.Test.YtbmaolhjplapoaaGreatRe
import Derived.Laws.BytesArg
set_option linter.unusedVariables false
set_option linter.unusedSimpArgs false
namespace Go.RR
open Go Go.RowKit
section
variable {R : Type} {W : SW} {X : Ctx} {s : AS} {o : Oper} {K : Eff → Option R} {r : R}
theorem XW (σ : Nat → Value) (b : Nat) (p : List Nat) (off : Nat) : val σ (.ptr b p off) = zfZ (σ b) off := rfl
theorem w4 (σ : Nat → Value) (b : Nat) : val σ (.sl b) = σ b := rfl
theorem YX {S : Nat → SV} {H : HF} {σ : Nat → Value} {a : Act} {w : World} (hsim : Sim W S H σ a w) {b : Nat} {blk : Blk} (hb : H b = some (some blk)) {p : List Nat} {off : Nat} (hp : yW blk.con p = some off) :
  ∃ g o cs, (∀ d, zfZ (σ b) d = .pointer (some ⟨g, o + d, none⟩)) ∧ zSQ (Yr w (zY H σ) 0) σ blk.con cs ∧ YZ w g o cs := by
 have h := hsim.blk b _ hb
 obtain ⟨own, c⟩ := blk
 cases own <;> cases c
 ·obtain ⟨hw, g, o, e, hg, hO, hl⟩ := h
  exact ⟨g, o, _, fun d => by rw [e]; rfl, rfl, hl⟩
 ·rename_i e l
  obtain ⟨xs, ao, cap, hr, e1, hc, hl⟩ := h
  have hne : l ≠ [] := by
   rintro rfl
   cases p with
   | nil => cases hp
   | cons i p => simp [yW] at hp
  obtain ⟨g, o, e2, hg, hO, hl⟩ := hl hne
  exact ⟨g, o, xs, fun d => by rw [e1, e2]; rfl, hr, hl⟩
 ·obtain ⟨hw, g, ty, e, hM, hg⟩ := h
  exact ⟨g, 0, _, fun d => by rw [e]; rfl, rfl, YZ.of_heap (n := _) hg (List.take_length)⟩
 ·rename_i e l
  obtain ⟨xs, hr, ⟨hn, ao, e1⟩ | ⟨g, cap, cur, ty, e1, hM, hc, hg, r1, r2, r3, r4⟩⟩ := h
  ·have : l = [] := List.eq_nil_of_length_eq_zero hn
   subst this
   cases p with
   | nil => cases hp
   | cons i p => simp [yW] at hp
  ·exact ⟨g, 0, xs, fun d => by rw [e1]; rfl, hr.imp fun k l v ⟨ao, cap, h1, h2, h3⟩ => ⟨ao, cap, h1, h2, fun hl => by
    obtain ⟨g, o, e, _, h4⟩ := h3 hl
    exact ⟨g, o, e, Nat.zero_le _, h4⟩⟩, YZ.of_heap hg r4⟩
theorem zPd (hd : ∀ i, o.dst = some i → i < W.N) {c x y : Operand} (ho : o.op = .pick c x y) (h : zpm X s o c x y K = some r) : ∃ e, K e = some r ∧ ZJ W o s e := by
 unfold zpm at h
 split at h
 ·rename_i hc
  split at h
  ·rename_i z hz
   refine yQ h hd fun S H σ a w hs hsim => ⟨val σ z, ?_, rfl, (zP hs hsim hz).2⟩
   have h1 := (zP hs hsim hc).1
   have h2 := (zP hs hsim hz).1
   simp only [execOp, ho, h1, h2, val, yc, enc, List.headD, asBool, Sem.run_bind, Sem.run_pure, Result.andThen_ok, if_true]
  ·cases h
 ·rename_i hc
  split at h
  ·rename_i z hz
   refine yQ h hd fun S H σ a w hs hsim => ⟨val σ z, ?_, rfl, (zP hs hsim hz).2⟩
   have h1 := (zP hs hsim hc).1
   have h2 := (zP hs hsim hz).1
   simp only [execOp, ho, h1, h2, val, yc, enc, List.headD, asBool, Sem.run_bind, Sem.run_pure, Result.andThen_ok, Bool.false_eq_true, if_false]
  ·cases h
 ·cases h
theorem zAd (hd : ∀ i, o.dst = some i → i < W.N) {x : Operand} (ho : o.op = .move x ∨ o.op = .assign x) {sv : SV} (hx : opS X.T s o.type x = sv) (hn : sv ≠ .none)
  (h : K ⟨vd o.dst sv, [], s.n⟩ = some r) : ∃ e, K e = some r ∧ ZJ W o s e := by
 refine ⟨_, h, ⟨Nat.le_refl _, fun b x h => by cases h⟩, ?_⟩
 intro S H σ a w hs hf hsim next Q hnx
 have h1 := zfu hs hsim hx hn
 refine Vq (v := a.eval x) (w' := w) (by rcases ho with ho | ho <;> simp only [execOp, ho, Sem.run_pure]) (hnx σ _ _ ?_)
 exact hsim.put hd h1
theorem VC {I : Inn} {k : IntKind} : ∀ {l : List Int} {xs : List Value}, zN I (.one (.i k)) l xs → xs = l.map (Value.int k)
 | [], xs, h => h
 | x :: l, xs, h => by
  simp only [zN] at h
  obtain ⟨c1, c2, rfl, h1, h2⟩ := h
  have h1 : c1 = [.int k x] := h1
  rw [h1, VC h2]; rfl
theorem zDR {w : World} {g o : Nat} {l : List Int} (h : YZ w g o (l.map (Value.int .u8))) : ∀ i, i < l.length → w.cell? ⟨g, o + i, none⟩ = some (.int .u8 (l.getD i 0)) := fun i hi => by
 refine h i _ ?_
 rw [List.getElem?_map, List.getD_eq_getElem?_getD, List.getElem?_eq_getElem hi]; rfl
theorem zA3 {H : HF} {σ : Nat → Value} {w : World} {own : Bool} {t u e : Nat} {l : List Int} {v : Value} (hs : W.P.underlying t = some (.slice e)) (he : W.P.underlying e = some (.int .u8)) (hd : W.P.underlying u = some .string)
  (h : vK W H σ w v ⟨own, .arr (.one (.i .u8)) l⟩) : (convert t u v).run W.P w = .ok (.string (zUr l)) w := by
 have zero : ∀ ao cap, (convert t u (.slice ao 0 cap)).run W.P w = .ok (.string (zUr [])) w := by
  intro ao cap
  cases ao with
  | none => exact run_convert_bytes_nil w t e hs he 0 cap u hd
  | some a =>
   rw [run_convert_bytes_string w t u e _ 0 cap hs he hd, run_bytesToString w a 0 cap [] (by simp [loadCells, loadCellsFrom, Sem.run_pure])]
   rfl
 cases own
 ·obtain ⟨xs, ao, cap, h1, rfl, _, h2⟩ := h
  have h1 := VC h1
  subst h1
  cases hl : l with
  | nil => exact zero ao cap
  | cons x r =>
   obtain ⟨g, o, rfl, _, _, h3⟩ := h2 (by rw [hl]; exact fun q => nomatch q)
   rw [← hl]
   exact run_convert_bytes_arg w t e hs he g o l.length cap l rfl (zDR h3) u hd
 ·obtain ⟨xs, h1, h2⟩ := h
  have h1 := VC h1
  subst h1
  rcases h2 with ⟨hn, ao, rfl⟩ | ⟨g, cap, cur, ty, rfl, _, _, h3, _, _, _, h4⟩
  ·have : l = [] := List.length_eq_zero_iff.1 hn
   rw [this]; exact zero ao 0
  ·exact run_convert_bytes_arg w t e hs he g 0 l.length cap l rfl (zDR (YZ.of_heap h3 h4)) u hd
theorem zNQ (hT : yr W.P X.T) (hd : ∀ i, o.dst = some i → i < W.N) {t u : Nat} {x : Operand} (ho : o.op = .convert t u x) (h : zox X s o t u x K = some r) : ∃ e, K e = some r ∧ ZJ W o s e := by
 unfold zox at h
 split at h
 ·rename_i k1 z1 b1 k2 z2 b2 k3 n h1 h2 h3
  obtain ⟨d1, e1, u1⟩ := (hT t _ h1).und
  obtain ⟨d2, e2, u2⟩ := (hT u _ h2).und
  cases d1 <;> simp only [yu] at u1
  cases d2 <;> simp only [yu] at u2
  subst u1; subst u2
  refine yQ h hd fun S H σ a w hs hsim => ⟨_, ?_, rfl, rfl⟩
  have h4 := (zP hs hsim h3).1
  simp [execOp, ho, h4, val, yc, enc, convert, yA e1, yA e2, Conv.intToInt]
 ·rename_i e z1 b1 z2 b2 b h1 h2 h3
  obtain ⟨d1, e1, u1⟩ := (hT t _ h1).und
  obtain ⟨d2, e2, u2⟩ := (hT u _ h2).und
  cases d1 <;> simp only [yu] at u1
  cases d2 <;> simp only [yu] at u2
  subst u1
  split at h
  ·rename_i z3 b3 own l h5 hb
   obtain ⟨d3, e3, u3⟩ := (hT _ _ h5).und
   cases d3 <;> simp only [yu] at u3
   subst u3
   refine yQ h hd fun S H σ a w hs hsim => ⟨_, ?_, rfl, rfl⟩
   have h4 := (zP hs hsim h3).1
   have h6 := hsim.blk b _ (hs.blk hb)
   have run : (execOp a.eval o).run W.P w = ((convert t u (a.eval x)).run W.P w).andThen fun v w' => .ok (.value v) w' := by
    simp [execOp, ho]
   rw [run, h4, w4, zA3 e1 e3 e2 h6]
   rfl
  ·cases h
 ·cases h
theorem zTn (hd : ∀ i, o.dst = some i → i < W.N) {t : Nat} {x : Operand} (ho : o.op = .unOp .not t x) {b : Bool} (hx : opA X.T s 0 x = some (.v (.bool b))) (h : ret s o (.v (.bool !b)) K = some r) : ∃ e, K e = some r ∧ ZJ W o s e := by
 refine yQ h hd fun S H σ a w hs hsim => ⟨_, ?_, rfl, rfl⟩
 have h4 := (zP hs hsim hx).1
 simp [execOp, ho, h4, val, yc, enc, Op.unary]
theorem zTg (hd : ∀ i, o.dst = some i → i < W.N) {t : Nat} {x : Operand} (ho : o.op = .unOp .neg t x) {k : IntKind} {b : Int} (hx : opA X.T s t x = some (.v (.int k b))) (h : ret s o (.v (.int k (k.wrap (0 - b)))) K = some r) : ∃ e, K e = some r ∧ ZJ W o s e := by
 refine yQ h hd fun S H σ a w hs hsim => ⟨_, ?_, rfl, rfl⟩
 have h4 := (zP hs hsim hx).1
 simp [execOp, ho, h4, val, yc, enc, Op.unary, Op.intArith]
theorem zS8 (hd : ∀ i, o.dst = some i → i < W.N) {x : Operand} (ho : o.op = .nilCheck x) {b : Nat} {p : List Nat} {off : Nat} (hx : opA X.T s 0 x = some (.ptr b p off)) {blk : Blk} (hb : s.blk b = some blk) (h : ret s o (.ptr b p off) K = some r) : ∃ e, K e = some r ∧ ZJ W o s e := by
 refine yQ h hd fun S H σ a w hs hsim => ⟨_, ?_, rfl, (zP hs hsim hx).2⟩
 have h4 := (zP hs hsim hx).1
 obtain ⟨g, o', cs, h5, _⟩ := YX hsim (hs.blk hb) ((zP hs hsim hx).2.2 _ (hs.blk hb))
 rw [XW, h5 off] at h4
 rw [XW, h5 off]
 simp only [execOp, ho, h4, Sem.run_pure, Sem.run_bind]
theorem zf6 {H : HF} (σ : Nat → Value) : ∀ xs : List A, (∀ x ∈ xs, yc x = false) → yX σ xs = xs.map (val σ)
 | [], _ => rfl
 | x :: xs, h => by
  have h1 := h x (by simp)
  have hl : (enc σ x).length = 1 := by rw [y7]; cases x <;> first | rfl | (simp [yc] at h1)
  simp only [yX, List.map_cons, zf6 (H := H) σ xs (fun y hy => h y (by simp [hy]))]
  rw [show val σ x = (enc σ x).headD undef by unfold val; rw [h1]]
  match he : enc σ x with
  | [] => rw [he] at hl; cases hl
  | [u] => rfl
  | _ :: _ :: _ => rw [he] at hl; simp at hl
theorem zsd (hd : ∀ i, o.dst = some i → i < W.N) {f : Nat} {fst cs : Array Operand} (ho : o.op = .makeFunc (.func f) fst cs) (hf : fst.toList = []) {xs : List A} (hx : zmj X.T s [] cs.toList = some xs)
  (h : cond (xs.all fun x => !yc x) (ret s o (.clo f xs) K) none = some r) : ∃ e, K e = some r ∧ ZJ W o s e := by
 obtain ⟨h1, h⟩ := zt h
 refine yQ h hd fun S H σ a w hs hsim => ⟨_, ?_, rfl, (Xz hs hsim hx).2, h1⟩
 have h2 := (Xz hs hsim hx).1
 have h3 : yX σ xs = xs.map (val σ) := zf6 (H := H) σ xs fun x hx => by
  have := List.all_eq_true.1 h1 x hx
  simpa using this
 have hf' : fst = #[] := by simpa using hf
 have h5 : cs.map a.eval = (xs.map (val σ)).toArray := by
  apply Array.toList_inj.1
  rw [← h2]
  exact Array.toList_map
 simp only [execOp, ho, hf', Instr.makeFunc, Sem.run_bind, Sem.run_pure, Result.andThen_ok, h5, val, yc, enc, List.headD, h3, Array.map_empty]
theorem ztL (hd : ∀ i, o.dst = some i → i < W.N) {x : Operand} {i : Nat} (ho : o.op = .extract x i) (h : VD X s o x i K = some r) : ∃ e, K e = some r ∧ ZJ W o s e := by
 unfold VD at h
 split at h
 ·rename_i xs hx
  split at h
  ·rename_i z hz
   refine yQ h hd fun S H σ a w hs hsim => ⟨_, ?_, rfl, ?_⟩
   ·have h4 := (zfu hs hsim hx (by simp)).1
    simp [execOp, ho, h4, Instr.extract, hz]
   ·exact xR (zfu hs hsim hx (by simp)).2 z (List.mem_of_getElem? hz)
  ·cases h
 ·cases h
theorem zS3 (hT : yr W.P X.T) (hd : ∀ i, o.dst = some i → i < W.N) {t : Nat} {x : Operand} (ho : o.op = .call { callee := .builtin .len, args := #[x], argTypes := #[t] }) (h : zJ3 X s o t x K = some r) : ∃ e, K e = some r ∧ ZJ W o s e := by
 have run : ∀ (a : Act) (w : World), (execOp a.eval o).run W.P w = ((Builtin.len_ #[t] o.type #[a.eval x]).run W.P w).andThen fun v w' => .ok (.value v) w' := by
  intro a w
  simp [execOp, ho, Go.resolve, invoke, builtin]
 unfold zJ3 at h
 split at h
 ·rename_i z1 z2 z h1 h2
  obtain ⟨d1, e1, u1⟩ := (hT t _ h1).und
  cases d1 <;> simp only [yu] at u1
  refine yQ h hd fun S H σ a w hs hsim => ⟨_, ?_, rfl, rfl⟩
  have h4 := (zP hs hsim h2).1
  rw [run]
  simp [Builtin.len_, yA e1, h4, val, yc, enc, goInt]
 ·rename_i z1 z2 z3 z4 z5 h1 h2
  obtain ⟨d1, e1, u1⟩ := (hT t _ h1).und
  cases d1 <;> simp only [yu] at u1
  obtain ⟨rfl, rfl⟩ := u1
  refine yQ h hd fun S H σ a w hs hsim => ⟨_, ?_, rfl, rfl⟩
  rw [run]
  simp [Builtin.len_, yA e1, val, yc, enc, goInt]
 ·rename_i z1 z2 z3 b h1 h2
  obtain ⟨d1, e1, u1⟩ := (hT t _ h1).und
  cases d1 <;> simp only [yu] at u1
  split at h
  ·rename_i own e l hb
   refine yQ h hd fun S H σ a w hs hsim => ⟨_, ?_, rfl, rfl⟩
   have h4 := (zP hs hsim h2).1
   have h5 := hsim.blk b _ (hs.blk hb)
   have h6 : ∃ ao cap, σ b = .slice ao l.length cap := by
    cases own
    ·obtain ⟨xs, ao, cap, _, h5, _⟩ := h5
     exact ⟨ao, cap, h5⟩
    ·obtain ⟨xs, _, ⟨hn, ao, h5⟩ | ⟨g, cap, cur, ty, h5, _⟩⟩ := h5
     ·exact ⟨ao, 0, by rw [h5, hn]⟩
     ·exact ⟨_, cap, h5⟩
   obtain ⟨ao, cap, h6⟩ := h6
   rw [run, h4, w4, h6]
   simp [Builtin.len_, yA e1, val, yc, enc, goInt]
  ·cases h
 ·rename_i z1 z2 z3 b h1 h2
  obtain ⟨d1, e1, u1⟩ := (hT t _ h1).und
  cases d1 <;> simp only [yu] at u1
  refine yQ h hd fun S H σ a w hs hsim => ⟨_, ?_, rfl, rfl⟩
  have h4 := (zP hs hsim h2).1
  rw [run]
  simp [Builtin.len_, yA e1, h4, val, yc, enc, goInt]
 ·cases h
end
end Go.RR
