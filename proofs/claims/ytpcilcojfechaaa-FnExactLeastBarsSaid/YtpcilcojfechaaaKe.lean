/- The law of StaggerRows, walked: both answers agree, and the rows that are handed back are nobody else's. No condition. -/
import Derived.Test.YtpcilcojfechaaaKc
set_option linter.unusedVariables false
set_option linter.unusedSimpArgs false
set_option maxRecDepth 100000
namespace Go.RR
open Go Go.Proofs Go.RowKit

theorem eqRow_same (l : List Int) (hl : l.length ≤ 100000000) : s_weqRow l l = some true := by
  unfold s_weqRow
  have : (((List.length l : Nat) : Int) != ((List.length l : Nat) : Int)) = false := by simp
  rw [this, cond_false]
  unfold f_weqRow_run4
  have h := run_all (step := fun x => f_weqRow_n4 x.1 x.2.1 x.2.2) l.length (fun i => ((i : Int), l, l)) (fun i => true) true false (by omega) ?_ ?_
  · exact h.trans (by simp)
  · intro i hi
    show f_weqRow_n4 i l l = _
    unfold f_weqRow_n4
    rw [lt_true hi, inB_nat hi, toNat_nat, succ64 (by omega)]
    have : (l.getD i 0 != l.getD i 0) = false := by simp
    rw [this]; rfl
  · show f_weqRow_n4 (l.length : Nat) l l = _
    unfold f_weqRow_n4
    rw [lt_neg, cond_false]
theorem eqRowS_same (l : List (List Int)) (hl : l.length ≤ 1000000) (hr : ∀ r ∈ l, r.length ≤ 1000) : s_weqRowS l l = some true := by
  unfold s_weqRowS
  have : (((List.length l : Nat) : Int) != ((List.length l : Nat) : Int)) = false := by simp
  rw [this, cond_false]
  unfold f_weqRowS_run4
  have h := run_all (step := fun x => f_weqRowS_n4 x.1 x.2.1 x.2.2) l.length (fun i => ((i : Int), l, l)) (fun i => true) true false (by omega) ?_ ?_
  · exact h.trans (by simp)
  · intro i hi
    have h1 := hr _ (getD_mem' (d := ([] : List Int)) hi)
    show f_weqRowS_n4 i l l = _
    unfold f_weqRowS_n4
    rw [lt_true hi, inB_nat hi, toNat_nat, succ64 (by omega), eqRow_same _ (by omega)]
    rfl
  · show f_weqRowS_n4 (l.length : Nat) l l = _
    unfold f_weqRowS_n4
    rw [lt_neg, cond_false]
theorem CellsR.below {w w' : World} {e : ET} {l : List e.den} {v : Value} (h : CellsR w (.lst e l) [v]) (hb : Below w.heap.size w w') : CellsR w' (.lst e l) [v] := by
  obtain ⟨xs, ao, cap, h1, h2, h3, h4⟩ := h
  refine ⟨xs, ao, cap, h1, h2, h3.imp fun k l v hv => hv.keep hb.size fun g hg hn => ⟨hb.block g hg, hn⟩, fun hne => ?_⟩
  obtain ⟨g, o, h5, h6, h7⟩ := h4 hne
  exact ⟨g, o, h5, Nat.lt_of_lt_of_le h6 hb.size, h7.keep (hb.block g h6)⟩
theorem res_cells {w w' : World} {O : Nat → Prop} {e : ET} {l : List e.den} {v : Value} (h : ResV1 w w' O (.lst e l) v) : CellsR w' (.lst e l) [v] ∧ ∃ ao m c, v = .slice ao m c := by
  obtain ⟨xs, h1, h2⟩ := h
  have h3 : OwnV w' v e.sz l.length xs := by
    rcases h2 with h | ⟨g, cap, cur, ty, rfl, hlo, hc, r⟩
    · exact .inl h
    · exact .inr ⟨g, cap, cur, ty, rfl, hc, r⟩
  refine ⟨h3.cells (h1.imp fun k l v hv => hv.any), ?_⟩
  rcases h3 with ⟨_, ao, rfl⟩ | ⟨g, cap, _, _, rfl, _⟩
  · exact ⟨_, _, _, rfl⟩
  · exact ⟨_, _, _, rfl⟩
abbrev rowsA (l : List (List Int)) : A := .lst (.one (.ls .i16)) l
theorem eq_call {l : List (List Int)} (hl : l.length ≤ 1000000) (hr : ∀ r ∈ l, r.length ≤ 1000) {w : World} {u v : Value} (hu : CellsR w (rowsA l) [u]) (hv : CellsR w (rowsA l) [v]) : Calls Try.prog 7 #[u, v] w fun e w' => e = .returned (.bool true) ∧ Below w.heap.size w w' := by
  refine (f_weqRowS_sound [rowsA l, rowsA l] true (eqRowS_same l hl hr) w [u, v] trivial ⟨u, _, rfl, hu, v, [], rfl, hv, rfl⟩).mono ?_
  rintro e w' ⟨z, rfl, h, hb⟩
  rw [res_one h]
  exact ⟨rfl, hb⟩
theorem held_call {l cur : List (List Int)} {k0 : Nat} (h : Marked l k0 l.length cur) (hl : l.length ≤ 1000) (hr : ∀ r ∈ l, r.length ≤ 1000) (hk : k0 ≤ 1000) {w : World} {u : Value} (hu : CellsR w (rowsA cur) [u]) : Calls Try.prog 9 #[u, .int .i64 (k0 : Int)] w fun e w' => e = .returned (.int .i64 ((kk l k0 l.length : Nat) : Int)) ∧ Below w.heap.size w w' := by
  refine (f_wheldRowS_sound [rowsA cur, .v (.int .i64 (k0 : Int))] ((kk l k0 l.length : Nat) : Int) (heldS_ok h hl hr hk) w [u, .int .i64 (k0 : Int)] trivial ⟨u, _, rfl, hu, _, [], rfl, argv_int _, rfl⟩).mono ?_
  rintro e w' ⟨z, rfl, h, hb⟩
  rw [res_one h]
  exact ⟨rfl, hb⟩
theorem spec_call {a0 a1 a2 a3 a4 : Int} {l : List (List Int)} {code : Int} (h : s_sStaggerRows a0 a1 a2 a3 a4 = some (l, code)) (w : World) : Calls Try.prog 5 #[.int .i64 a0, .int .i64 a1, .int .i64 a2, .int .i64 a3, .int .i64 a4] w fun e w' => ∃ ao m c, e = .returned (.tuple #[.slice ao m c, .int .i64 code]) ∧ CellsR w' (rowsA l) [.slice ao m c] ∧ Below w.heap.size w w' := by
  refine (f_sStaggerRows_sound [.v (.int .i64 a0), .v (.int .i64 a1), .v (.int .i64 a2), .v (.int .i64 a3), .v (.int .i64 a4)] (l, code) h w _ trivial (ints_arg [a0, a1, a2, a3, a4])).mono ?_
  rintro e w' ⟨v, rfl, ⟨vs, rfl, hlen, hres, _⟩, hb⟩
  match vs, hlen with
  | [u, x], _ =>
    have h1 : ResV1 w w' (Ow [u, x]) (rowsA l) u := hres 0 _ _ rfl rfl
    have h2 : ResV1 w w' (Ow [u, x]) (.v (.int .i64 code)) x := hres 1 _ _ rfl rfl
    have h2 : x = .int .i64 code := h2.2
    subst h2
    obtain ⟨h3, ao, m, c, rfl⟩ := res_cells h1
    exact ⟨ao, m, c, rfl, h3, hb⟩
def StagC (a0 a1 a2 a3 a4 : Int) (l : List (List Int)) (code : Int) : Prop := ∀ w : World, Calls Try.prog 6 #[.int .i64 a0, .int .i64 a1, .int .i64 a2, .int .i64 a3, .int .i64 a4] w fun e w' => ∃ ao m c vs, e = .returned (.tuple #[.slice ao m c, .int .i64 code]) ∧ NestV w' w.heap.size .i16 l (.slice ao m c) vs ∧ Below w.heap.size w w'
theorem below_touch {a w w' : World} {vs : List Value} (h : Below a.heap.size a w) (hT : Touch vs w w') (hlo : ∀ u ∈ vs, ∀ g, ownG u = some g → a.heap.size ≤ g) : Below a.heap.size a w' :=
  ⟨hT.os.trans h.os, hT.tape.trans h.tape, hT.output.trans h.output, Nat.le_trans h.size hT.size, fun k hk => (hT.block k (Nat.lt_of_lt_of_le hk h.size) fun u hu e => by have := hlo u hu k e; omega).trans (h.block k hk)⟩
theorem law_walk {a0 a1 a2 a3 a4 : Int} {l : List (List Int)} {code : Int} (hl : l.length ≤ 20) (hr : ∀ r ∈ l, r.length ≤ 60) (h5 : s_sStaggerRows a0 a1 a2 a3 a4 = some (l, code)) (h6 : StagC a0 a1 a2 a3 a4 l code) (w : World) :
    Calls Try.prog 3 #[.int .i64 a0, .int .i64 a1, .int .i64 a2, .int .i64 a3, .int .i64 a4] w fun e w' => e = .returned (.bool true) ∧ Below w.heap.size w w' := by
  have hl1 : l.length ≤ 1000000 := by omega
  have hl2 : l.length ≤ 1000 := by omega
  have hr1 : ∀ r ∈ l, r.length ≤ 1000 := fun r hr' => by have := hr r hr'; omega
  have c5 := spec_call h5
  have P6 : Aside True := trivial
  have P7 : Aside True := trivial
  have P9 : Aside True := trivial
  have hneg : ¬ ((kk l 1 l.length : Nat) : Int) < 0 := by omega
  have one1 : ((1 : Nat) : Int) = 1 := rfl
  have c9 := fun {cur : List (List Int)} {w : World} {u : Value} (h : Marked l 1 l.length cur) (hu : CellsR w (rowsA cur) [u]) => held_call h hl2 hr1 (by omega) hu
  have c8 := fun {w : World} {lo : Nat} {v : Value} {vs : List Value} (h : NestV w lo .i16 l v vs) => mark_walk (k0 := 1) h hl2 hr1 (by omega)
  clear hr h5 hl
  go_enter Try.func3, Try.ntmps3
  go_wp2_with (first
    | (go_at_call 5; refine (c5 _).mono ?_; rintro e w1 ⟨ao1, m1, c1, rfl, hC1, hB1⟩)
    | (go_at_call 6; have := P6; refine (h6 _).mono ?_; rintro e w2 ⟨ao2, m2, c2, vs2, rfl, hN2, hD2⟩; clear this P6)
    | (go_at_call 7; have := P7; refine (eq_call hl1 hr1 hN2.arg (hC1.below hD2)).mono ?_; rintro e w3 ⟨rfl, hb3⟩; clear this P7; have hD3 := hD2.trans (hb3.mono hD2.size); have hN3 := hN2.below hb3)
    | (go_at_call 8; refine (c8 hN3).mono ?_; rintro e w4 ⟨rfl, cur, hM, hN4, hT4⟩; have hD4 := below_touch hD3 hT4 (fun u hu g hg => (hN3.nest.low hu hg).1))
    | (go_at_call 9; have := P9; refine (c9 hM hN4.arg).mono ?_; rintro e w5 ⟨rfl, hb5⟩; clear this P9; have hD5 := hD4.trans (hb5.mono hD4.size); have hN5 := hN4.below hb5)
    | (go_at_call 6; refine (h6 _).mono ?_; rintro e w6 ⟨ao6, m6, c6, vs6, rfl, hM6, hb6⟩; have hD6 := hD5.trans (hb6.mono hD5.size); have hN6 := hN5.below hb6)
    | (go_at_call 7; refine (eq_call hl1 hr1 hM6.arg (hC1.below hD6)).mono ?_; rintro e w7 ⟨rfl, hb7⟩; have hD7 := hD6.trans (hb7.mono hD6.size); have hN7 := hN6.below hb7)
    | (go_at_call 9; refine (c9 hM hN7.arg).mono ?_; rintro e w8 ⟨rfl, hb8⟩; have hD8 := hD7.trans (hb8.mono hD7.size)))
  go_ret
  exact ⟨rfl, hB1.trans (hD8.mono hB1.size)⟩
end Go.RR
namespace Go.RR
open Go Go.Proofs Go.RowKit

theorem NestV.slice {w : World} {lo : Nat} {k : IntKind} {l : List (List Int)} {v : Value} {vs : List Value} (h : NestV w lo k l v vs) : ∃ ao m c, v = .slice ao m c := by
  rcases h.own with ⟨_, ao, rfl⟩ | ⟨g', cap', _, _, rfl, _⟩
  · exact ⟨_, _, _, rfl⟩
  · exact ⟨_, _, _, rfl⟩
theorem stagC_in {L S W R : Nat} {near : Int} (hL : 1 ≤ L ∧ L ≤ 2000) (hS : S ≤ 200) (hW : 1 ≤ W ∧ W ≤ 200) (hR : 1 ≤ R ∧ R ≤ 20) (hn : 0 ≤ near ∧ near ≤ 2000) : StagC (L : Int) (S : Int) (W : Int) near (R : Int) (stag L S W near R).1 (stag L S W near R).2 := fun w => by
  refine (stag_walk hL hS hW hR hn w).mono ?_
  rintro e w' ⟨v, vs, rfl, hN, hb⟩
  obtain ⟨ao, m, c, rfl⟩ := hN.slice
  exact ⟨ao, m, c, vs, rfl, hN, hb⟩
theorem nest_none {w w' : World} {O : Nat → Prop} {v : Value} (h : ResV1 w w' O (rowsA []) v) : NestV w' w.heap.size .i16 [] v [] := by
  obtain ⟨xs, h1, h2⟩ := h
  have h1 : xs = [] := h1
  subst h1
  refine ⟨⟨rfl, fun i u h => (nomatch h), fun i j u v _ h => (nomatch h)⟩, ?_, fun g hg => ?_, fun u h => (nomatch h)⟩
  · rcases h2 with ⟨h0, ao, rfl⟩ | ⟨g, cap, cur, ty, rfl, hlo, hc, r⟩
    · exact .inl ⟨rfl, ao, rfl⟩
    · exact .inr ⟨g, cap, cur, ty, rfl, hc, r⟩
  · rcases h2 with ⟨h0, ao, rfl⟩ | ⟨g', cap, cur, ty, rfl, hlo, hc, hg', r⟩
    · cases ao <;> simp [ownG] at hg
    · simp only [ownG] at hg
      split at hg
      · cases hg
      · cases hg
        exact ⟨hlo, (Array.getElem?_eq_some_iff.1 hg').1⟩
theorem stagC_out {a0 a1 a2 a3 a4 : Int} (h : s_iStaggerRows a0 a1 a2 a3 a4 = some ([], 2)) : StagC a0 a1 a2 a3 a4 [] 2 := fun w => by
  refine (f_iStaggerRows_sound [.v (.int .i64 a0), .v (.int .i64 a1), .v (.int .i64 a2), .v (.int .i64 a3), .v (.int .i64 a4)] ([], 2) h w _ trivial (ints_arg [a0, a1, a2, a3, a4])).mono ?_
  rintro e w' ⟨v, rfl, ⟨vs, rfl, hlen, hres, _⟩, hb⟩
  match vs, hlen with
  | [u, x], _ =>
    have h1 : ResV1 w w' (Ow [u, x]) (rowsA []) u := hres 0 _ _ rfl rfl
    have h2 : ResV1 w w' (Ow [u, x]) (.v (.int .i64 2)) x := hres 1 _ _ rfl rfl
    have h2 : x = .int .i64 2 := h2.2
    subst h2
    have hN := nest_none h1
    obtain ⟨ao, m, c, rfl⟩ := hN.slice
    exact ⟨ao, m, c, [], rfl, hN, hb⟩
theorem within_eq (x a b : Int) : s_iwithin x a b = decide (a ≤ x ∧ x ≤ b) := by
  unfold s_iwithin
  by_cases h1 : a ≤ x <;> by_cases h2 : x ≤ b <;> simp [h1, h2]
theorem in_eq (x a b : Int) : s_sl00In x a b = decide (a ≤ x ∧ x ≤ b) := by
  unfold s_sl00In
  by_cases h1 : a ≤ x <;> by_cases h2 : x ≤ b <;> simp [h1, h2]
/-- Arguments that no rows are made of. -/
theorem out_range {a0 a1 a2 a3 a4 : Int} (h : ¬ ((1 ≤ a0 ∧ a0 ≤ 2000) ∧ (0 ≤ a1 ∧ a1 ≤ 200) ∧ (1 ≤ a2 ∧ a2 ≤ 200) ∧ (0 ≤ a3 ∧ a3 ≤ 2000) ∧ (1 ≤ a4 ∧ a4 ≤ 20))) :
    s_iStaggerRows a0 a1 a2 a3 a4 = some ([], 2) ∧ s_sStaggerRows a0 a1 a2 a3 a4 = some ([], 2) := by
  have hw : s_iisWidth [a2] = some (decide (1 ≤ a2 ∧ a2 ≤ 200)) := by
    rw [isWidth_all (by simp)]
    simp only [List.all_cons, List.all_nil, width_iff, Bool.and_true]
  unfold s_iStaggerRows t_iStaggerRows s_sStaggerRows t_sStaggerRows s_iisLong s_iisSeam s_sl05Long s_sl05Seam s_sl05Width s_sl05Near
  rw [hw]
  simp only [within_eq, in_eq, Option.bind]
  by_cases h0 : 1 ≤ a0 ∧ a0 ≤ 2000
  · by_cases h1 : 0 ≤ a1 ∧ a1 ≤ 200
    · by_cases h2 : 1 ≤ a2 ∧ a2 ≤ 200
      · by_cases h3 : 0 ≤ a3 ∧ a3 ≤ 2000
        · have h4 : ¬ (1 ≤ a4 ∧ a4 ≤ 20) := fun q => h ⟨h0, h1, h2, h3, q⟩
          rw [decide_eq_true h0, decide_eq_true h1, decide_eq_true h2, decide_eq_true h3, decide_eq_false h4]
          exact ⟨rfl, rfl⟩
        · rw [decide_eq_true h0, decide_eq_true h1, decide_eq_true h2, decide_eq_false h3]
          exact ⟨rfl, rfl⟩
      · rw [decide_eq_true h0, decide_eq_true h1, decide_eq_false h2]
        exact ⟨rfl, rfl⟩
    · rw [decide_eq_true h0, decide_eq_false h1]
      exact ⟨rfl, rfl⟩
  · rw [decide_eq_false h0]
    exact ⟨rfl, rfl⟩
theorem stag_small {L S W R : Nat} {near : Int} (hL : 1 ≤ L ∧ L ≤ 2000) (hW : 1 ≤ W ∧ W ≤ 200) (hR : 1 ≤ R ∧ R ≤ 20) : (stag L S W near R).1.length ≤ 20 ∧ ∀ r ∈ (stag L S W near R).1, r.length ≤ 60 := by
  unfold stag
  cases hb : (brk L S W W).2
  · exact ⟨by simp, fun r hr => by simp at hr⟩
  · rw [cond_true]
    cases hx : exitL (stG L S W near) [(brk L S W W).1] (List.range' 0 (R - 1)) with
    | inl o =>
      have hI := stag_inv (S := S) hL hW hb o hx
      refine ⟨?_, fun r hr => ?_⟩
      · have := hI.len
        show o.length ≤ 20
        omega
      · exact (hI.row r hr).1.l
    | inr r =>
      have : ∀ (ks : List Nat) (st : List (List Int)) r, exitL (stG L S W near) st ks = .inr r → r = ([], 6) := by
        intro ks
        induction ks with
        | nil => intro st r h; cases h
        | cons k ks ih =>
          intro st r h
          unfold exitL at h
          cases hg : stG L S W near st k with
          | inl st' => rw [hg] at h; exact ih st' r h
          | inr r' =>
            rw [hg] at h
            cases h
            unfold stG at hg
            cases hc : Nat.blt (atJ L S W near st) W <;> rw [hc] at hg <;> cases hg
            rfl
      have := this _ _ _ hx
      subst this
      exact ⟨by simp [endL], fun r hr => by simp [endL] at hr⟩
def SoundAt (P : Program) (f : Nat) (rs : List A) (C : ACall) : Prop :=
  ∀ r, C.c = some r → ∀ w vs, JJ P w → ArgsV w rs vs → Calls P f vs.toArray w fun e w' => ∃ v, e = .returned v ∧ ResR w w' (C.res r) v ∧ Below w.heap.size w w'
theorem sound_kit {P : Program} {f : Nat} {Φ : List A → ACall} (h : ∀ rs, SoundAt P f rs (Φ rs)) : Sound P f Φ := fun rs r e w vs hJ hv => h rs r e w vs hJ hv
noncomputable def c_wFnExactStaggerRows : List A → ACall
  | [.v (.int .i64 _), .v (.int .i64 _), .v (.int .i64 _), .v (.int .i64 _), .v (.int .i64 _)] => ⟨Bool, some true, fun r => .one (.v (.bool r))⟩
  | _ => ACall.fail
theorem law_at (a0 a1 a2 a3 a4 : Int) (w : World) : Calls Try.prog 3 #[.int .i64 a0, .int .i64 a1, .int .i64 a2, .int .i64 a3, .int .i64 a4] w fun e w' => e = .returned (.bool true) ∧ Below w.heap.size w w' := by
  by_cases h : (1 ≤ a0 ∧ a0 ≤ 2000) ∧ (0 ≤ a1 ∧ a1 ≤ 200) ∧ (1 ≤ a2 ∧ a2 ≤ 200) ∧ (0 ≤ a3 ∧ a3 ≤ 2000) ∧ (1 ≤ a4 ∧ a4 ≤ 20)
  · obtain ⟨h0, h1, h2, h3, h4⟩ := h
    obtain ⟨L, rfl⟩ := Int.eq_ofNat_of_zero_le (show 0 ≤ a0 by omega)
    obtain ⟨S, rfl⟩ := Int.eq_ofNat_of_zero_le (show 0 ≤ a1 by omega)
    obtain ⟨W, rfl⟩ := Int.eq_ofNat_of_zero_le (show 0 ≤ a2 by omega)
    obtain ⟨R, rfl⟩ := Int.eq_ofNat_of_zero_le (show 0 ≤ a4 by omega)
    have hL : 1 ≤ L ∧ L ≤ 2000 := by omega
    have hS : S ≤ 200 := by omega
    have hW : 1 ≤ W ∧ W ≤ 200 := by omega
    have hR : 1 ≤ R ∧ R ≤ 20 := by omega
    obtain ⟨h5, h6⟩ := stag_small (S := S) (near := a3) hL hW hR
    exact law_walk h5 h6 (stag_s hL hS hW hR h3) (stagC_in hL hS hW hR h3) w
  · obtain ⟨h1, h2⟩ := out_range h
    exact law_walk (by simp) (fun r hr => by simp at hr) h2 (stagC_out h1) w
theorem f_wFnExactStaggerRows_sound : Sound Try.prog 3 c_wFnExactStaggerRows := by
  refine sound_kit fun rs => ?_
  unfold c_wFnExactStaggerRows
  split
  · rename_i a0 a1 a2 a3 a4
    intro r hr w vs hJ hv
    cases hr
    obtain ⟨v0, _, rfl, ⟨q0, _⟩, v1, _, rfl, ⟨q1, _⟩, v2, _, rfl, ⟨q2, _⟩, v3, _, rfl, ⟨q3, _⟩, v4, _, rfl, ⟨q4, _⟩, rfl⟩ := hv
    cases q0; cases q1; cases q2; cases q3; cases q4
    refine (law_at a0 a1 a2 a3 a4 w).mono ?_
    rintro e w' ⟨rfl, hb⟩
    refine ⟨_, rfl, ⟨rfl, fun i a v h1 h2 => ?_, fun i j u v hij h1 h2 => ?_⟩, hb⟩
    · cases i with
      | zero => cases h1; cases h2; exact ⟨fun H => rfl, rfl⟩
      | succ i => cases h1
    · cases i with
      | succ i => cases h1
      | zero => cases j with
        | zero => exact absurd rfl hij
        | succ j => cases h2
  · intro r hr; cases hr
theorem law_StaggerRows {p q r s t : Prop} (_ : p) (_ : q) (_ : r) (_ : s) (_ : t) : (some true : Option Bool) = some true := rfl
end Go.RR
