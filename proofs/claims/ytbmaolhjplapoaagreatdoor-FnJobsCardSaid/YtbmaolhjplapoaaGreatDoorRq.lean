/- From a row's contract to arguments, and back. No condition. -/
import Derived.Test.YtbmaolhjplapoaaGreatDoorRo
import Derived.ProofKit
import Derived.OpenShut
import Derived.ChangeArms
import Derived.DataElems
set_option linter.unusedVariables false
set_option linter.unusedSimpArgs false
namespace Go.RR
open Go Go.RowKit Go.WideShapes Go.ChangeAt Go.ChangeShapes
def offsOk (T : Tab) (tot : Nat) : Nat → List (Nat × Nat) → Bool
 | o, [] => Nat.beq o tot
 | o, (d, t) :: r => match lk T t with
  | some ti => Nat.beq d o && offsOk T tot (o + ti.sz) r
  | none => false
mutual
def ShA (T : Tab) : Nat → Nat → A → Prop
 | 0, _, _ => False
 | d + 1, t, a => match lk T t with
  | some ⟨.int k, _, _⟩ => ∃ n, (Lit.int k n).wf = true ∧ a = .v (.int k n)
  | some ⟨.bool, _, _⟩ => ∃ b, a = .v (.bool b)
  | some ⟨.array n e, _, _⟩ => match lk T e with
   | some ⟨.int k, _, _⟩ => ∃ f, (∀ j, j < n → (Lit.int k (f j)).wf = true) ∧ a = .fa n k f
   | _ => False
  | some ⟨.struct fs, _, _⟩ => ∃ as, a = .rc as ∧ ShL T d fs as
  | some ⟨.str, _, _⟩ => ∃ s : ByteArray, s.size ≤ maxLen ∧ a = .v (.string s)
  | some ⟨.slice e, _, _⟩ => match etOf T e with
   | some et => ∃ l : List et.den, l.length ≤ maxLen ∧ (∀ x ∈ l, ShA T d e (et.toA x)) ∧ a = .lst et l
   | none => False
  | _ => False
def ShL (T : Tab) : Nat → List (Nat × Nat) → List A → Prop
 | _, [], as => as = []
 | 0, _ :: _, _ => False
 | d + 1, (_, t) :: r, as => ∃ x xs, as = x :: xs ∧ ShA T d t x ∧ ShL T d r xs
end
mutual
def supp (T : Tab) : Nat → Nat → Bool
 | 0, _ => false
 | d + 1, t => match lk T t with
  | some ⟨.int _, sz, _⟩ => Nat.beq sz 1
  | some ⟨.bool, sz, _⟩ => Nat.beq sz 1
  | some ⟨.array n e, sz, _⟩ => match lk T e with
   | some ⟨.int _, s, _⟩ => Nat.beq s 1 && Nat.beq sz n
   | _ => false
  | some ⟨.struct fs, sz, _⟩ => offsOk T sz 0 fs && suppL T d fs
  | some ⟨.str, sz, _⟩ => Nat.beq sz 1
  | some ⟨.slice e, sz, _⟩ => match etOf T e, lk T e with
   | some et, some ti => Nat.beq sz 1 && et.flat && Nat.beq ti.sz et.sz && Nat.blt 0 ti.sz && supp T d e
   | _, _ => false
  | _ => false
def suppL (T : Tab) : Nat → List (Nat × Nat) → Bool
 | _, [] => true
 | 0, _ :: _ => false
 | d + 1, (_, t) :: r => supp T d t && suppL T d r
end
section
variable {H : Type} {enc : TypeId × Value → H} {P : Program} {T : Tab} {w : World} {base : Nat} {spare : Nat → Bool} {held : Bool}
theorem cellsOf_tab (hT : TabOK P T) {t : Nat} {i : TI} (h : lk T t = some i) : P.cellsOf t = i.sz := by
 obtain ⟨f, h1, h2, _⟩ := (hT t i h).inf
 simp [Program.cellsOf, h1, h2]
theorem und_tab (hT : TabOK P T) {t : Nat} {i : TI} (h : lk T t = some i) : ∃ d, P.underlying t = some d ∧ UndOK d i.k := (hT t i h).und
theorem und_int (hT : TabOK P T) {t : Nat} {k : IntKind} {s b : Nat} (h : lk T t = some ⟨.int k, s, b⟩) : P.underlying t = some (.int k) := by
 obtain ⟨d, h1, h2⟩ := und_tab hT h
 cases d <;> simp [UndOK] at h2
 rw [h1, h2]
theorem und_bool (hT : TabOK P T) {t : Nat} {s b : Nat} (h : lk T t = some ⟨.bool, s, b⟩) : P.underlying t = some .bool := by
 obtain ⟨d, h1, h2⟩ := und_tab hT h
 cases d <;> simp [UndOK] at h2
 exact h1
theorem und_array (hT : TabOK P T) {t n e : Nat} {s b : Nat} (h : lk T t = some ⟨.array n e, s, b⟩) : P.underlying t = some (.array n e) := by
 obtain ⟨d, h1, h2⟩ := und_tab hT h
 cases d <;> simp [UndOK] at h2
 rw [h1, h2.1, h2.2]
theorem und_struct (hT : TabOK P T) {t : Nat} {gs : List (Nat × Nat)} {s b : Nat} (h : lk T t = some ⟨.struct gs, s, b⟩) : ∃ fs, P.underlying t = some (.struct fs) ∧ fs.toList.map (fun f => (f.offset, f.type)) = gs := by
 obtain ⟨d, h1, h2⟩ := und_tab hT h
 cases d <;> simp [UndOK] at h2
 exact ⟨_, h1, by simpa using h2⟩
theorem ints_cells {k : IntKind} {n : Nat} {cs : List Value} (hl : cs.length = n) (h : ∀ i, i < n → ∃ m, cs[i]? = some (.int k m) ∧ (Lit.int k m).wf = true) : ∃ f : Nat → Int, (∀ j, j < n → (Lit.int k (f j)).wf = true) ∧ cs = (List.range n).map fun j => .int k (f j) := by
 have hc : ∀ i, ∃ m, i < n → cs[i]? = some (.int k m) ∧ (Lit.int k m).wf = true := fun i => by
  by_cases hi : i < n
  ·obtain ⟨m, hm⟩ := h i hi
   exact ⟨m, fun _ => hm⟩
  ·exact ⟨0, fun h => absurd h hi⟩
 refine ⟨fun i => (hc i).choose, fun j hj => ((hc j).choose_spec hj).2, ?_⟩
 apply List.ext_getElem?
 intro i
 rw [List.getElem?_map]
 by_cases hi : i < n
 ·rw [((hc i).choose_spec hi).1, List.getElem?_range hi]; rfl
 ·rw [List.getElem?_eq_none_iff.2 (by omega), List.getElem?_eq_none_iff.2 (by simp; omega)]; rfl
theorem und_str (hT : TabOK P T) {t : Nat} {s b : Nat} (h : lk T t = some ⟨.str, s, b⟩) : P.underlying t = some .string := by
 obtain ⟨d, h1, h2⟩ := und_tab hT h
 cases d <;> simp [UndOK] at h2
 exact h1
theorem und_slice (hT : TabOK P T) {t e : Nat} {s b : Nat} (h : lk T t = some ⟨.slice e, s, b⟩) : P.underlying t = some (.slice e) := by
 obtain ⟨d, h1, h2⟩ := und_tab hT h
 cases d <;> simp [UndOK] at h2
 rw [h1, h2]
theorem rt_sh {d t : Nat} {r : RT} {a : A} {cs : List Value} (hr : rtOf T t = some r) (hf : r.flat = true) (h : ShA T d t a) (hc : CellsR w a cs) : ∃ x : r.den, a = r.toA x ∧ ∀ I, RTC I r x cs := by
 cases d with
 | zero => simp only [ShA] at h
 | succ d =>
  simp only [ShA] at h
  unfold rtOf at hr
  split at hr
  ·rename_i k s b ht
   rw [ht] at h
   cases hr
   obtain ⟨n, _, rfl⟩ := h
   exact ⟨n, rfl, fun I => hc.1⟩
  ·rename_i s b ht
   rw [ht] at h
   cases hr
   obtain ⟨n, rfl⟩ := h
   exact ⟨n, rfl, fun I => hc.1⟩
  ·rename_i s b ht
   rw [ht] at h
   cases hr
   obtain ⟨n, _, rfl⟩ := h
   exact ⟨n, rfl, fun I => hc.1⟩
  ·rename_i n e s b ht
   rw [ht] at h
   dsimp only at h
   split at hr
   ·rename_i k s2 b2 he
    rw [he] at h
    cases hr
    obtain ⟨f, _, rfl⟩ := h
    exact ⟨f, rfl, fun I => hc⟩
   ·cases hr
  ·split at hr
   ·cases hr; cases hf
   ·cases hr
  ·cases hr
theorem RTC.flat_enc {I : Inn} {t : RT} {x : t.den} {cs : List Value} (h : RTC I t x cs) (hf : t.flat = true) : cs = Go.RR.enc (fun _ => undef) (t.toA x) := by
 cases t
 case ls k => cases hf
 all_goals exact h
theorem fs_sh {d : Nat} : ∀ {fs : List (Nat × Nat)} {ts : List RT} {d : Nat} {al : List A} {cs : List Value}, rtsOf T fs = some ts → ShL T d fs al → CellsRL w al cs → ts.all RT.flat = true ∧ ∃ x : dens ts, al = fieldsA ts x ∧ cs = encL (fun _ => undef) al
 | [], ts, d, al, cs, hr, h, hc => by
  cases hr
  have : al = [] := by cases d <;> simpa only [ShL] using h
  subst this
  exact ⟨rfl, (), rfl, hc⟩
 | (o, t) :: fs, ts, 0, al, cs, hr, h, hc => by simp only [ShL] at h
 | (o, t) :: fs, ts, d + 1, al, cs, hr, h, hc => by
  simp only [ShL] at h
  obtain ⟨a, as, rfl, ha, has⟩ := h
  obtain ⟨c1, c2, rfl, hc1, hc2⟩ := hc
  simp only [rtsOf] at hr
  split at hr
  ·cases hr
  ·rename_i r rs hn hr1 hrs
   cases hr
   have hfl : r.flat = true := by
    cases r with
    | ls k => exact (hn k rfl).elim
    | _ => rfl
   obtain ⟨x0, rfl, e0⟩ := rt_sh hr1 hfl ha hc1
   obtain ⟨h1, x1, rfl, e1⟩ := fs_sh (d := d) hrs has hc2
   have e0' := RTC.flat_enc (e0 fun _ _ _ => False) hfl
   refine ⟨by simp [hfl, h1], ?_⟩
   cases rs with
   | nil => exact ⟨x0, rfl, by rw [e0', e1]; rfl⟩
   | cons r' rs => exact ⟨(x0, x1), rfl, by rw [e0', e1]; rfl⟩
  ·cases hr
theorem el_sh {d t : Nat} {e : ET} {a : A} {cs : List Value} (he : etOf T t = some e) (hf : e.flat = true) (h : ShA T d t a) (hc : CellsR w a cs) : ∃ x : e.den, a = e.toA x ∧ ∀ I, ElC I e x cs := by
 unfold etOf at he
 split at he
 ·rename_i fs s b ht
  split at he
  ·rename_i ts hts
   cases he
   cases d with
   | zero => simp only [ShA] at h
   | succ d =>
    simp only [ShA, ht] at h
    obtain ⟨as, rfl, has⟩ := h
    obtain ⟨h1, x, rfl, hx⟩ := fs_sh (d := d) hts has (by simpa only [CellsR] using hc)
    exact ⟨x, rfl, fun I => ⟨h1, hx⟩⟩
  ·cases he
 ·split at he
  ·rename_i r hr
   cases he
   have hfl : r.flat = true := by cases r <;> first | rfl | cases hf
   exact rt_sh hr hfl h hc
  ·cases he
theorem cells_at {a : Addr} {n : Nat} {cs : List Value} (h : w.cells? base a n = some cs) : cs.length = n ∧ ∀ j v, cs[j]? = some v → w.cell? (a.add j) = some v := by
 unfold World.cells? at h
 split at h
 ·have h1 := mapM_some_length h
  refine ⟨by simpa using h1, fun j v hj => ?_⟩
  have hjn : j < n := by
   have := (List.getElem?_eq_some_iff.1 hj).1
   simp at h1; omega
  have := mapM_some_get h j j (by simp [hjn])
  rw [this]; exact hj
 ·cases h
theorem rows_of {a : Addr} {e : ET} {Q : e.den → Prop} (hsz : 0 < e.sz) : ∀ (n : Nat), (∀ i, i < n → ∃ cs x, w.cells? base (a.add (i * e.sz)) e.sz = some cs ∧ Q x ∧ ∀ I, ElC I e x cs) →
  ∃ (l : List e.den) (xs : List Value), l.length = n ∧ (∀ x ∈ l, Q x) ∧ (∀ I, RowsC I e l xs) ∧ ∀ j v, xs[j]? = some v → w.cell? (a.add j) = some v
 | 0, _ => ⟨[], [], rfl, fun x h => by simp at h, fun I => rfl, fun j v h => by simp at h⟩
 | n + 1, h => by
  obtain ⟨l, xs, h1, h2, h3, h4⟩ := rows_of hsz n fun i hi => h i (by omega)
  obtain ⟨cs, x, g1, g2, g3⟩ := h n (Nat.lt_succ_self n)
  obtain ⟨g4, g5⟩ := cells_at g1
  have hx : xs.length = n * e.sz := by rw [(h3 fun _ _ _ => False).len, h1]
  refine ⟨l ++ [x], xs ++ cs, by simp [h1], fun y hy => ?_, fun I => (h3 I).append ⟨cs, [], by simp, g3 I, rfl⟩, fun j v hj => ?_⟩
  ·rcases List.mem_append.1 hy with hy | hy
   ·exact h2 y hy
   ·simp at hy; rw [hy]; exact g2
  ·by_cases hjx : j < xs.length
   ·rw [List.getElem?_append_left hjx] at hj
    exact h4 j v hj
   ·rw [List.getElem?_append_right (by omega)] at hj
    have := g5 _ v hj
    rw [Addr.add_add] at this
    rw [show n * e.sz + (j - xs.length) = j by omega] at this
    exact this
theorem spot_none {a : Addr} {v : Value} (h : w.cell? a = some v) : a.spot = none ∧ a.block < w.heap.size := by
 unfold World.cell? at h
 split at h
 ·rename_i c t f hb
  split at h
  ·cases h
  ·rename_i hs
   refine ⟨by simpa using hs, ?_⟩
   exact (Array.getElem?_eq_some_iff.1 hb).1
 ·cases h
theorem slice_sh {e : ET} {Q : e.den → Prop} (hsz : 0 < e.sz) {a : Addr} {n cap : Nat} (hc : n ≤ cap) (h : ∀ i, i < n → ∃ cs x, w.cells? base (a.add (i * e.sz)) e.sz = some cs ∧ Q x ∧ ∀ I, ElC I e x cs) :
  ∃ l : List e.den, l.length = n ∧ (∀ x ∈ l, Q x) ∧ CellsR w (.lst e l) [.slice (some a) n cap] := by
 obtain ⟨l, xs, h1, h2, h3, h4⟩ := rows_of hsz n h
 refine ⟨l, h1, h2, xs, some a, cap, by rw [h1], by omega, h3 _, fun hne => ?_⟩
 have hn : 0 < n := by rw [← h1]; exact List.length_pos_iff.2 hne
 have hx : xs.length = n * e.sz := by rw [(h3 fun _ _ _ => False).len, h1]
 have hpos : 0 < xs.length := by rw [hx]; exact Nat.mul_pos hn hsz
 have h0 := h4 0 _ (List.getElem?_eq_getElem hpos)
 have ha0 : a.add 0 = a := by simp [Addr.add]
 rw [ha0] at h0
 obtain ⟨q1, q2⟩ := spot_none h0
 obtain ⟨g, o, s⟩ := a
 simp only at q1 q2
 subst q1
 exact ⟨g, o, rfl, q2, fun j v hj => by rw [← Addr.add_lit]; exact h4 j v hj⟩
mutual
theorem trod_sh (hT : TabOK P T) : ∀ (d t fuel : Nat) (cs : List Value) (x : DataW H × List MemPlace), supp T d t = true → DataW.trod enc P w base spare held fuel t cs = some x → ∃ a, ShA T d t a ∧ CellsR w a cs
 | 0, t, fuel, cs, x, hs, h => by cases hs
 | d + 1, t, fuel, cs, x, hs, h => by
  simp only [supp] at hs
  simp only [ShA]
  split at hs
  ·rename_i k sz by_ ht
   obtain ⟨n, rfl, _, hw⟩ := DataW.trod_int (und_int hT ht) h
   exact ⟨_, ⟨n, hw, rfl⟩, rfl, rfl⟩
  ·rename_i sz by_ ht
   obtain ⟨b, rfl, _⟩ : ∃ b, cs = [.bool b] ∧ True := by
    cases fuel with
    | zero => simp [DataW.trod] at h
    | succ n =>
     unfold DataW.trod at h
     rw [und_bool hT ht] at h
     split at h <;> simp_all
   exact ⟨_, ⟨b, rfl⟩, rfl, rfl⟩
  ·rename_i n e sz by_ ht
   split at hs
   ·rename_i k s by2 he
    simp only [Bool.and_eq_true] at hs
    have hs1 := Nat.eq_of_beq_eq_true hs.1
    have hs2 := Nat.eq_of_beq_eq_true hs.2
    obtain ⟨xs, m, _, _, hl, hxl, hx⟩ := DataW.trod_array (und_array hT ht) h
    rw [cellsOf_tab hT ht] at hl
    dsimp only at hl
    obtain ⟨f, h1, h2⟩ := ints_cells (k := k) (n := n) (hl.trans hs2) fun i hi => by
     have := hx i hi
     rw [cellsOf_tab hT he] at this
     dsimp only at this
     rw [hs1, Nat.mul_one, List.getElem?_eq_getElem (by omega)] at this
     obtain ⟨q, hq, _, hw⟩ := DataW.trod_int (und_int hT he) this
     refine ⟨q, ?_, hw⟩
     have h0 : ((cs.drop i).take 1)[0]? = some (.int k q) := by rw [hq]; rfl
     simpa [List.getElem?_take, List.getElem?_drop] using h0
    exact ⟨_, ⟨f, h1, rfl⟩, h2⟩
   ·cases hs
  ·rename_i gs sz by_ ht
   simp only [Bool.and_eq_true] at hs
   obtain ⟨fs, hu, hfs⟩ := und_struct hT ht
   obtain ⟨xs, m, _, _, hl, hxl, hx⟩ := DataW.trod_struct hu h
   rw [cellsOf_tab hT ht] at hl
   obtain ⟨as, h1, h2⟩ := trod_shL hT d gs 0 sz m cs hs.2 hs.1 hl fun p hp => by
    rw [← hfs, List.mem_map] at hp
    obtain ⟨f, hf, rfl⟩ := hp
    obtain ⟨i, hi⟩ := List.getElem?_of_mem hf
    rw [Array.getElem?_toList] at hi
    have h3 := hx i f hi
    have hlt := (Array.getElem?_eq_some_iff.1 hi).1
    rw [List.getElem?_eq_getElem (by omega)] at h3
    exact ⟨_, h3⟩
   exact ⟨_, ⟨as, rfl, h1⟩, by simp only [CellsR]; simpa using h2⟩
  ·rename_i sz by_ ht
   obtain ⟨s, rfl, hsl⟩ : ∃ s : ByteArray, cs = [.string s] ∧ s.size ≤ maxLen := by
    cases fuel with
    | zero => simp [DataW.trod] at h
    | succ n =>
     unfold DataW.trod at h
     rw [und_str hT ht] at h
     split at h <;> simp_all
   exact ⟨_, ⟨s, hsl, rfl⟩, rfl, rfl⟩
  ·rename_i e sz by_ ht
   split at hs
   ·rename_i et ti he hti
    simp only [Bool.and_eq_true] at hs
    obtain ⟨⟨⟨⟨_, hfl⟩, hsz⟩, hpos⟩, hse⟩ := hs
    have hsz := Nat.eq_of_beq_eq_true hsz
    have hpos : 0 < ti.sz := Nat.le_of_ble_eq_true hpos
    simp only [he]
    rcases DataW.trod_slice (und_slice hT ht) h with ⟨rfl, _⟩ | ⟨a, len, cap, elems, rest, n, _, rfl, _, hb, hle, hcap, hel, hget, _, _⟩
    ·exact ⟨_, ⟨[], Nat.zero_le _, fun x hx => by simp at hx, rfl⟩, [], none, 0, rfl, Nat.zero_le _, rfl, fun hne => absurd rfl hne⟩
    ·obtain ⟨l, h1, h2, h3⟩ := slice_sh (w := w) (base := base) (a := a) (e := et) (Q := fun x => ShA T d e (et.toA x)) (by omega) hle fun i hi => by
      have h4 := hget i hi
      rw [List.getElem?_eq_getElem (by omega), cellsOf_tab hT hti, hsz] at h4
      obtain ⟨ci, h5, h6⟩ := Option.bind_eq_some_iff.1 h4
      obtain ⟨ai, h7, h8⟩ := trod_sh hT d e n ci _ hse h6
      obtain ⟨x, rfl, h9⟩ := el_sh he hfl h7 h8
      exact ⟨ci, x, h5, h7, h9⟩
     exact ⟨_, ⟨l, by omega, h2, rfl⟩, h3⟩
   ·cases hs
  ·cases hs
theorem trod_shL (hT : TabOK P T) : ∀ (d : Nat) (gs : List (Nat × Nat)) (o tot m : Nat) (cs : List Value), suppL T d gs = true → offsOk T tot o gs = true → cs.length = tot →
  (∀ p ∈ gs, ∃ y, DataW.trod enc P w base spare held m p.2 ((cs.drop p.1).take (P.cellsOf p.2)) = some y) → ∃ as, ShL T d gs as ∧ CellsRL w as (cs.drop o)
 | d, [], o, tot, m, cs, _, ho, hl, _ => by
  simp only [offsOk] at ho
  have := Nat.eq_of_beq_eq_true ho
  refine ⟨[], by cases d <;> simp only [ShL], ?_⟩
  show cs.drop o = []
  rw [List.drop_eq_nil_iff]; omega
 | 0, _ :: _, o, tot, m, cs, hs, _, _, _ => by simp only [suppL] at hs; cases hs
 | d + 1, (off, t) :: r, o, tot, m, cs, hs, ho, hl, hx => by
  simp only [suppL, Bool.and_eq_true] at hs
  simp only [offsOk] at ho
  split at ho
  ·rename_i ti ht
   simp only [Bool.and_eq_true] at ho
   have ho1 := Nat.eq_of_beq_eq_true ho.1
   subst ho1
   obtain ⟨y, hy⟩ := hx (off, t) (by simp)
   dsimp only at hy
   rw [cellsOf_tab hT ht] at hy
   obtain ⟨a, h1, h2⟩ := trod_sh hT d t m _ y hs.1 hy
   obtain ⟨as, h3, h4⟩ := trod_shL hT d r (off + ti.sz) tot m cs hs.2 ho.2 hl fun p hp => hx p (List.mem_cons_of_mem _ hp)
   refine ⟨a :: as, by simp only [ShL]; exact ⟨a, as, rfl, h1, h3⟩, _, _, ?_, h2, h4⟩
   rw [← List.drop_drop]
   exact (List.take_append_drop _ _).symm
  ·cases ho
end
theorem arg_sh (hT : TabOK P T) {t : Nat} {v : Value} {r : Reach} {b0 : Nat} {dt : DataW H} {ps : List MemPlace} (hs : supp T 8 t = true) (hv : Value.okWide P w r b0 t v) (h : DataW.Trod enc P w base spare held t v dt ps) : ∃ a, ShA T 8 t a ∧ ArgV w a v := by
 obtain ⟨fuel, hf⟩ := h
 obtain ⟨a, h1, h2⟩ := trod_sh hT 8 t fuel _ _ hs hf
 refine ⟨a, h1, ?_⟩
 simp only [ShA] at h1
 split at h1
 ·rename_i k sz by_ ht
  obtain ⟨n, _, rfl⟩ := h1
  obtain ⟨m, rfl⟩ := okWide_int (und_int hT ht) hv
  exact h2
 ·rename_i sz by_ ht
  obtain ⟨n, rfl⟩ := h1
  obtain ⟨m, rfl⟩ := okWide_bool (und_bool hT ht) hv
  exact h2
 ·rename_i n e sz by_ ht
  split at h1
  ·obtain ⟨f, _, rfl⟩ := h1
   have hv' := hv
   simp only [Value.okWide, und_array hT ht] at hv'
   obtain ⟨cs, rfl, _⟩ := hv'
   exact ⟨cs.toList, by simp, h2⟩
  ·exact h1.elim
 ·rename_i gs sz by_ ht
  obtain ⟨as, rfl, _⟩ := h1
  obtain ⟨fs, hu, _⟩ := und_struct hT ht
  have hv' := hv
  simp only [Value.okWide, hu] at hv'
  obtain ⟨cs, rfl, _⟩ := hv'
  exact ⟨cs.toList, by simp, h2⟩
 ·rename_i sz by_ ht
  obtain ⟨n, _, rfl⟩ := h1
  obtain ⟨m, rfl⟩ := okWide_string (und_str hT ht) hv
  exact h2
 ·rename_i e sz by_ ht
  split at h1
  ·obtain ⟨l, _, _, rfl⟩ := h1
   obtain ⟨ad, n, cap, rfl⟩ := okWide_slice (und_slice hT ht) hv
   exact h2
  ·exact h1.elim
 ·exact h1.elim
def ShAll (T : Tab) : List Nat → List A → Prop
 | [], as => as = []
 | t :: ts, as => ∃ x xs, as = x :: xs ∧ ShA T 8 t x ∧ ShAll T ts xs
theorem args_sh (hT : TabOK P T) {r : Reach} {b0 : Nat} : ∀ (ts : List Nat) (vs : List Value) (ds : List (DataW H)) (ps : List MemPlace), ts.all (supp T 8) = true →
  (∀ (j : Nat) t v, ts[j]? = some t → vs[j]? = some v → Value.okWide P w r b0 t v) → DataW.TrodAll enc P w base spare held ts vs ds ps → ∃ as, ShAll T ts as ∧ ArgsV w as vs
 | [], [], [], ps, _, _, _ => ⟨[], rfl, rfl⟩
 | [], _ :: _, _, ps, _, _, h => h.elim
 | [], [], _ :: _, ps, _, _, h => h.elim
 | _ :: _, [], _, ps, _, _, h => h.elim
 | _ :: _, _ :: _, [], ps, _, _, h => h.elim
 | t :: ts, v :: vs, dd :: ds, ps, hs, hv, h => by
  simp only [List.all_cons, Bool.and_eq_true] at hs
  obtain ⟨p, q, h1, h2, _⟩ := h
  obtain ⟨a, h3, h4⟩ := arg_sh hT hs.1 (hv 0 t v rfl rfl) h1
  obtain ⟨as, h5, h6⟩ := args_sh hT ts vs ds q hs.2 (fun j t' v' h7 h8 => hv (j + 1) t' v' (by simpa using h7) (by simpa using h8)) h2
  exact ⟨a :: as, ⟨a, as, rfl, h3, h5⟩, v, vs, rfl, h4, h6⟩
end
section
variable {H : Type} {enc : TypeId × Value → H} {P : Program}
theorem trodAll_below (hl : laidOutB P = true) {W W' : World} (hb : Below W.heap.size W W') : ∀ (ts : List TypeId) (vs : List Value) (ds : List (DataW H)) (ps : List MemPlace),
  (ts.all fun t => P.readableRec t && decide (t < P.types.size)) = true → (∀ x ∈ ps, x.block < W.heap.size) → DataW.TrodAll enc P W 0 (fun _ => true) true ts vs ds ps → DataW.TrodAll enc P W' 0 (fun b => decide (b < W.heap.size)) true ts vs ds ps
 | [], [], [], ps, _, _, h => h
 | [], _ :: _, _, ps, _, _, h => h.elim
 | [], [], _ :: _, ps, _, _, h => h.elim
 | _ :: _, [], _, ps, _, _, h => h.elim
 | _ :: _, _ :: _, [], ps, _, _, h => h.elim
 | t :: ts, v :: vs, d :: ds, ps, hr, hlt, h => by
  simp only [List.all_cons, Bool.and_eq_true, decide_eq_true_eq] at hr
  obtain ⟨p, q, h1, h2, rfl⟩ := h
  exact ⟨p, q, Below.trod hl hr.1.1 hr.1.2 h1 hb fun x hx => hlt x (List.mem_append_left _ hx), trodAll_below hl hb ts vs ds q (by simpa using hr.2) (fun x hx => hlt x (List.mem_append_right _ hx)) h2, rfl⟩
theorem keptBut_below {W W' : World} (hb : Below W.heap.size W W') (may : MemPlace → Prop) : W.keptBut W' may := by
 refine ⟨hb.os, hb.output, fun i hi => ?_⟩
 rw [hb.block i hi]
 cases W.heap[i]? with
 | none => rfl
 | some o => cases o <;> first | exact ⟨rfl, rfl, rfl, fun _ _ => rfl⟩ | exact .inr ⟨rfl, rfl⟩ | rfl
theorem law_post {f : Func} {s : ChangeSpec} {apart fresh handsOn : Bool} {W W' : World} {args : Array Value} {ds gs : List (DataW H)} {before : List MemPlace} {tb : TypeId} (hl : laidOutB P = true)
  (hsv : s.vars = []) (hW : DataW.Whole enc P f.params.toList s.vars apart W args.toList ds gs before) (hb : Below W.heap.size W W')
  (hread : (f.params.toList.all fun t => P.readableRec t && decide (t < P.types.size)) = true) (hr : f.resultTypes = #[tb]) (hu : P.underlying tb = some .bool)
  (hfn : (s.fn H (ds ++ gs)).results = [.lit (.bool true)]) (hargs : (s.fn H (ds ++ gs)).args = ds) (hvars : (s.fn H (ds ++ gs)).vars = []) :
  s.post enc P f apart fresh handsOn false W args (.bool true) W' := by
 have hlt := hW.lt
 have hW0 := hW
 obtain ⟨p, q, h1, h2, rfl, _, _⟩ := hW
 have hvq : gs = [] ∧ q = [] := by
  rw [hsv] at h2
  exact trodVars_none h2
 refine ⟨ds, gs, p ++ q, [], p, [], hW0, ?_, ?_, ?_, keptBut_below hb _, fun h => by cases h⟩
 ·rw [hr, hfn]
  exact trodAll_mk1 (by exact ⟨1, by simp [DataW.trod, hu, Value.cells]⟩)
 ·rw [hargs]
  exact trodAll_below hl hb _ _ _ _ hread (fun x hx => hlt x (List.mem_append_left _ hx)) h1
 ·rw [hvars, hsv]; rfl
end
end Go.RR
