/- From a row's contract to arguments, and back. No condition; no theorem of the program. -/
import Derived.Test.YtmbjjahfjbhbcaaRo
import Derived.ProofKit
import Derived.OpenShut
set_option linter.unusedVariables false
set_option linter.unusedSimpArgs false
namespace Go.RR
open Go Go.RowKit Go.WideShapes Go.ChangeAt Go.ChangeShapes

/-- Field offsets run on without a gap. -/
def offsOk (T : Tab) (tot : Nat) : Nat → List (Nat × Nat) → Bool
  | o, [] => Nat.beq o tot
  | o, (d, t) :: r => match lk T t with
    | some ti => Nat.beq d o && offsOk T tot (o + ti.sz) r
    | none => false
mutual
/-- The values of a type that a law's caller can hand over. -/
def ShA (T : Tab) : Nat → Nat → A → Prop
  | 0, _, _ => False
  | d + 1, t, a => match lk T t with
    | some ⟨.int k, _, _⟩ => ∃ n, (Lit.int k n).wf = true ∧ a = .v (.int k n)
    | some ⟨.bool, _, _⟩ => ∃ b, a = .v (.bool b)
    | some ⟨.array n e, _, _⟩ => match lk T e with
      | some ⟨.int k, _, _⟩ => ∃ f, (∀ j, j < n → (Lit.int k (f j)).wf = true) ∧ a = .fa n k f
      | _ => False
    | some ⟨.struct fs, _, _⟩ => ∃ as, a = .rc as ∧ ShL T d fs as
    | _ => False
def ShL (T : Tab) : Nat → List (Nat × Nat) → List A → Prop
  | _, [], as => as = []
  | 0, _ :: _, _ => False
  | d + 1, (_, t) :: r, as => ∃ x xs, as = x :: xs ∧ ShA T d t x ∧ ShL T d r xs
end
mutual
def supp (T : Tab) : Nat → Nat → Bool
  | 0, _ => false
  | d + 1, t => match lk T t with
    | some ⟨.int _, sz, _⟩ => Nat.beq sz 1
    | some ⟨.bool, sz, _⟩ => Nat.beq sz 1
    | some ⟨.array n e, sz, _⟩ => match lk T e with
      | some ⟨.int _, s, _⟩ => Nat.beq s 1 && Nat.beq sz n
      | _ => false
    | some ⟨.struct fs, sz, _⟩ => offsOk T sz 0 fs && suppL T d fs
    | _ => false
def suppL (T : Tab) : Nat → List (Nat × Nat) → Bool
  | _, [] => true
  | 0, _ :: _ => false
  | d + 1, (_, t) :: r => supp T d t && suppL T d r
end
section
variable {H : Type} {enc : TypeId × Value → H} {P : Program} {T : Tab} {w : World} {base : Nat} {spare : Nat → Bool} {held : Bool}
theorem cellsOf_tab (hT : TabOK P T) {t : Nat} {i : TI} (h : lk T t = some i) : P.cellsOf t = i.sz := by
  obtain ⟨f, h1, h2, _⟩ := (hT t i h).inf
  simp [Program.cellsOf, h1, h2]
theorem und_tab (hT : TabOK P T) {t : Nat} {i : TI} (h : lk T t = some i) : ∃ d, P.underlying t = some d ∧ UndOK d i.k := (hT t i h).und
theorem und_int (hT : TabOK P T) {t : Nat} {k : IntKind} {s b : Nat} (h : lk T t = some ⟨.int k, s, b⟩) : P.underlying t = some (.int k) := by
  obtain ⟨d, h1, h2⟩ := und_tab hT h
  cases d <;> simp [UndOK] at h2
  rw [h1, h2]
theorem und_bool (hT : TabOK P T) {t : Nat} {s b : Nat} (h : lk T t = some ⟨.bool, s, b⟩) : P.underlying t = some .bool := by
  obtain ⟨d, h1, h2⟩ := und_tab hT h
  cases d <;> simp [UndOK] at h2
  exact h1
theorem und_array (hT : TabOK P T) {t n e : Nat} {s b : Nat} (h : lk T t = some ⟨.array n e, s, b⟩) : P.underlying t = some (.array n e) := by
  obtain ⟨d, h1, h2⟩ := und_tab hT h
  cases d <;> simp [UndOK] at h2
  rw [h1, h2.1, h2.2]
theorem und_struct (hT : TabOK P T) {t : Nat} {gs : List (Nat × Nat)} {s b : Nat} (h : lk T t = some ⟨.struct gs, s, b⟩) : ∃ fs, P.underlying t = some (.struct fs) ∧ fs.toList.map (fun f => (f.offset, f.type)) = gs := by
  obtain ⟨d, h1, h2⟩ := und_tab hT h
  cases d <;> simp [UndOK] at h2
  exact ⟨_, h1, by simpa using h2⟩
theorem ints_cells {k : IntKind} {n : Nat} {cs : List Value} (hl : cs.length = n) (h : ∀ i, i < n → ∃ m, cs[i]? = some (.int k m) ∧ (Lit.int k m).wf = true) : ∃ f : Nat → Int, (∀ j, j < n → (Lit.int k (f j)).wf = true) ∧ cs = (List.range n).map fun j => .int k (f j) := by
  have hc : ∀ i, ∃ m, i < n → cs[i]? = some (.int k m) ∧ (Lit.int k m).wf = true := fun i => by
    by_cases hi : i < n
    · obtain ⟨m, hm⟩ := h i hi
      exact ⟨m, fun _ => hm⟩
    · exact ⟨0, fun h => absurd h hi⟩
  refine ⟨fun i => (hc i).choose, fun j hj => ((hc j).choose_spec hj).2, ?_⟩
  apply List.ext_getElem?
  intro i
  rw [List.getElem?_map]
  by_cases hi : i < n
  · rw [((hc i).choose_spec hi).1, List.getElem?_range hi]; rfl
  · rw [List.getElem?_eq_none_iff.2 (by omega), List.getElem?_eq_none_iff.2 (by simp; omega)]; rfl
mutual
theorem trod_sh (hT : TabOK P T) : ∀ (d t fuel : Nat) (cs : List Value) (x : DataW H × List MemPlace), supp T d t = true → DataW.trod enc P w base spare held fuel t cs = some x → ∃ a, ShA T d t a ∧ CellsR w a cs
  | 0, t, fuel, cs, x, hs, h => by cases hs
  | d + 1, t, fuel, cs, x, hs, h => by
    simp only [supp] at hs
    simp only [ShA]
    split at hs
    · rename_i k sz by_ ht
      obtain ⟨n, rfl, _, hw⟩ := DataW.trod_int (und_int hT ht) h
      exact ⟨_, ⟨n, hw, rfl⟩, rfl, rfl⟩
    · rename_i sz by_ ht
      obtain ⟨b, rfl, _⟩ : ∃ b, cs = [.bool b] ∧ True := by
        cases fuel with
        | zero => simp [DataW.trod] at h
        | succ n =>
          unfold DataW.trod at h
          rw [und_bool hT ht] at h
          split at h <;> simp_all
      exact ⟨_, ⟨b, rfl⟩, rfl, rfl⟩
    · rename_i n e sz by_ ht
      split at hs
      · rename_i k s by2 he
        simp only [Bool.and_eq_true] at hs
        have hs1 := Nat.eq_of_beq_eq_true hs.1
        have hs2 := Nat.eq_of_beq_eq_true hs.2
        obtain ⟨xs, m, _, _, hl, hxl, hx⟩ := DataW.trod_array (und_array hT ht) h
        rw [cellsOf_tab hT ht] at hl
        dsimp only at hl
        obtain ⟨f, h1, h2⟩ := ints_cells (k := k) (n := n) (hl.trans hs2) fun i hi => by
          have := hx i hi
          rw [cellsOf_tab hT he] at this
          dsimp only at this
          rw [hs1, Nat.mul_one, List.getElem?_eq_getElem (by omega)] at this
          obtain ⟨q, hq, _, hw⟩ := DataW.trod_int (und_int hT he) this
          refine ⟨q, ?_, hw⟩
          have h0 : ((cs.drop i).take 1)[0]? = some (.int k q) := by rw [hq]; rfl
          simpa [List.getElem?_take, List.getElem?_drop] using h0
        exact ⟨_, ⟨f, h1, rfl⟩, h2⟩
      · cases hs
    · rename_i gs sz by_ ht
      simp only [Bool.and_eq_true] at hs
      obtain ⟨fs, hu, hfs⟩ := und_struct hT ht
      obtain ⟨xs, m, _, _, hl, hxl, hx⟩ := DataW.trod_struct hu h
      rw [cellsOf_tab hT ht] at hl
      obtain ⟨as, h1, h2⟩ := trod_shL hT d gs 0 sz m cs hs.2 hs.1 hl fun p hp => by
        rw [← hfs, List.mem_map] at hp
        obtain ⟨f, hf, rfl⟩ := hp
        obtain ⟨i, hi⟩ := List.getElem?_of_mem hf
        rw [Array.getElem?_toList] at hi
        have h3 := hx i f hi
        have hlt := (Array.getElem?_eq_some_iff.1 hi).1
        rw [List.getElem?_eq_getElem (by omega)] at h3
        exact ⟨_, h3⟩
      exact ⟨_, ⟨as, rfl, h1⟩, by simp only [CellsR]; simpa using h2⟩
    · cases hs
theorem trod_shL (hT : TabOK P T) : ∀ (d : Nat) (gs : List (Nat × Nat)) (o tot m : Nat) (cs : List Value), suppL T d gs = true → offsOk T tot o gs = true → cs.length = tot →
    (∀ p ∈ gs, ∃ y, DataW.trod enc P w base spare held m p.2 ((cs.drop p.1).take (P.cellsOf p.2)) = some y) → ∃ as, ShL T d gs as ∧ CellsRL w as (cs.drop o)
  | d, [], o, tot, m, cs, _, ho, hl, _ => by
    simp only [offsOk] at ho
    have := Nat.eq_of_beq_eq_true ho
    refine ⟨[], by cases d <;> simp only [ShL], ?_⟩
    show cs.drop o = []
    rw [List.drop_eq_nil_iff]; omega
  | 0, _ :: _, o, tot, m, cs, hs, _, _, _ => by simp only [suppL] at hs; cases hs
  | d + 1, (off, t) :: r, o, tot, m, cs, hs, ho, hl, hx => by
    simp only [suppL, Bool.and_eq_true] at hs
    simp only [offsOk] at ho
    split at ho
    · rename_i ti ht
      simp only [Bool.and_eq_true] at ho
      have ho1 := Nat.eq_of_beq_eq_true ho.1
      subst ho1
      obtain ⟨y, hy⟩ := hx (off, t) (by simp)
      dsimp only at hy
      rw [cellsOf_tab hT ht] at hy
      obtain ⟨a, h1, h2⟩ := trod_sh hT d t m _ y hs.1 hy
      obtain ⟨as, h3, h4⟩ := trod_shL hT d r (off + ti.sz) tot m cs hs.2 ho.2 hl fun p hp => hx p (List.mem_cons_of_mem _ hp)
      refine ⟨a :: as, by simp only [ShL]; exact ⟨a, as, rfl, h1, h3⟩, _, _, ?_, h2, h4⟩
      rw [← List.drop_drop]
      exact (List.take_append_drop _ _).symm
    · cases ho
end
/-- One argument of a law. -/
theorem arg_sh (hT : TabOK P T) {t : Nat} {v : Value} {r : Reach} {b0 : Nat} {dt : DataW H} {ps : List MemPlace} (hs : supp T 8 t = true) (hv : Value.okWide P w r b0 t v) (h : DataW.Trod enc P w base spare held t v dt ps) : ∃ a, ShA T 8 t a ∧ ArgV w a v := by
  obtain ⟨fuel, hf⟩ := h
  obtain ⟨a, h1, h2⟩ := trod_sh hT 8 t fuel _ _ hs hf
  refine ⟨a, h1, ?_⟩
  simp only [ShA] at h1
  split at h1
  · rename_i k sz by_ ht
    obtain ⟨n, _, rfl⟩ := h1
    obtain ⟨m, rfl⟩ := okWide_int (und_int hT ht) hv
    exact h2
  · rename_i sz by_ ht
    obtain ⟨n, rfl⟩ := h1
    obtain ⟨m, rfl⟩ := okWide_bool (und_bool hT ht) hv
    exact h2
  · rename_i n e sz by_ ht
    split at h1
    · obtain ⟨f, _, rfl⟩ := h1
      have hv' := hv
      simp only [Value.okWide, und_array hT ht] at hv'
      obtain ⟨cs, rfl, _⟩ := hv'
      exact ⟨cs.toList, by simp, h2⟩
    · exact h1.elim
  · rename_i gs sz by_ ht
    obtain ⟨as, rfl, _⟩ := h1
    obtain ⟨fs, hu, _⟩ := und_struct hT ht
    have hv' := hv
    simp only [Value.okWide, hu] at hv'
    obtain ⟨cs, rfl, _⟩ := hv'
    exact ⟨cs.toList, by simp, h2⟩
  · exact h1.elim
def ShAll (T : Tab) : List Nat → List A → Prop
  | [], as => as = []
  | t :: ts, as => ∃ x xs, as = x :: xs ∧ ShA T 8 t x ∧ ShAll T ts xs
theorem args_sh (hT : TabOK P T) {r : Reach} {b0 : Nat} : ∀ (ts : List Nat) (vs : List Value) (ds : List (DataW H)) (ps : List MemPlace), ts.all (supp T 8) = true →
    (∀ (j : Nat) t v, ts[j]? = some t → vs[j]? = some v → Value.okWide P w r b0 t v) → DataW.TrodAll enc P w base spare held ts vs ds ps → ∃ as, ShAll T ts as ∧ ArgsV w as vs
  | [], [], [], ps, _, _, _ => ⟨[], rfl, rfl⟩
  | [], _ :: _, _, ps, _, _, h => h.elim
  | [], [], _ :: _, ps, _, _, h => h.elim
  | _ :: _, [], _, ps, _, _, h => h.elim
  | _ :: _, _ :: _, [], ps, _, _, h => h.elim
  | t :: ts, v :: vs, dd :: ds, ps, hs, hv, h => by
    simp only [List.all_cons, Bool.and_eq_true] at hs
    obtain ⟨p, q, h1, h2, _⟩ := h
    obtain ⟨a, h3, h4⟩ := arg_sh hT hs.1 (hv 0 t v rfl rfl) h1
    obtain ⟨as, h5, h6⟩ := args_sh hT ts vs ds q hs.2 (fun j t' v' h7 h8 => hv (j + 1) t' v' (by simpa using h7) (by simpa using h8)) h2
    exact ⟨a :: as, ⟨a, as, rfl, h3, h5⟩, v, vs, rfl, h4, h6⟩
end
/-! ### Back -/
section
variable {H : Type} {enc : TypeId × Value → H} {P : Program}
theorem trodAll_below (hl : laidOutB P = true) {W W' : World} (hb : Below W.heap.size W W') : ∀ (ts : List TypeId) (vs : List Value) (ds : List (DataW H)) (ps : List MemPlace),
    (ts.all fun t => P.readableRec t && decide (t < P.types.size)) = true → (∀ x ∈ ps, x.block < W.heap.size) → DataW.TrodAll enc P W 0 (fun _ => true) true ts vs ds ps → DataW.TrodAll enc P W' 0 (fun b => decide (b < W.heap.size)) true ts vs ds ps
  | [], [], [], ps, _, _, h => h
  | [], _ :: _, _, ps, _, _, h => h.elim
  | [], [], _ :: _, ps, _, _, h => h.elim
  | _ :: _, [], _, ps, _, _, h => h.elim
  | _ :: _, _ :: _, [], ps, _, _, h => h.elim
  | t :: ts, v :: vs, d :: ds, ps, hr, hlt, h => by
    simp only [List.all_cons, Bool.and_eq_true, decide_eq_true_eq] at hr
    obtain ⟨p, q, h1, h2, rfl⟩ := h
    exact ⟨p, q, Below.trod hl hr.1.1 hr.1.2 h1 hb fun x hx => hlt x (List.mem_append_left _ hx), trodAll_below hl hb ts vs ds q (by simpa using hr.2) (fun x hx => hlt x (List.mem_append_right _ hx)) h2, rfl⟩
theorem keptBut_below {W W' : World} (hb : Below W.heap.size W W') (may : MemPlace → Prop) : W.keptBut W' may := by
  refine ⟨hb.os, hb.output, fun i hi => ?_⟩
  rw [hb.block i hi]
  cases W.heap[i]? with
  | none => rfl
  | some o => cases o <;> first | exact ⟨rfl, rfl, rfl, fun _ _ => rfl⟩ | exact .inr ⟨rfl, rfl⟩ | rfl
/-- A law's row: it answers true, its input reads as it did. -/
theorem law_post {f : Func} {s : ChangeSpec} {apart fresh handsOn : Bool} {W W' : World} {args : Array Value} {ds gs : List (DataW H)} {before : List MemPlace} {tb : TypeId} (hl : laidOutB P = true)
    (hsv : s.vars = []) (hW : DataW.Whole enc P f.params.toList s.vars apart W args.toList ds gs before) (hb : Below W.heap.size W W')
    (hread : (f.params.toList.all fun t => P.readableRec t && decide (t < P.types.size)) = true) (hr : f.resultTypes = #[tb]) (hu : P.underlying tb = some .bool)
    (hfn : (s.fn H (ds ++ gs)).results = [.lit (.bool true)]) (hargs : (s.fn H (ds ++ gs)).args = ds) (hvars : (s.fn H (ds ++ gs)).vars = []) :
    s.post enc P f apart fresh handsOn false W args (.bool true) W' := by
  have hlt := hW.lt
  have hW0 := hW
  obtain ⟨p, q, h1, h2, rfl, _, _⟩ := hW
  have hvq : gs = [] ∧ q = [] := by
    rw [hsv] at h2
    exact trodVars_none h2
  refine ⟨ds, gs, p ++ q, [], p, [], hW0, ?_, ?_, ?_, keptBut_below hb _, fun h => by cases h⟩
  · rw [hr, hfn]
    exact trodAll_mk1 (by exact ⟨1, by simp [DataW.trod, hu, Value.cells]⟩)
  · rw [hargs]
    exact trodAll_below hl hb _ _ _ _ hread (fun x hx => hlt x (List.mem_append_left _ hx)) h1
  · rw [hvars, hsv]; rfl
end
end Go.RR
