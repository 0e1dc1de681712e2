/- The program's plan with the fewest bars, walked. No condition but the ranges of the arguments. -/
import Derived.Test.YtpcilcojfechaaaLm
set_option linter.unusedVariables false
set_option linter.unusedSimpArgs false
set_option maxRecDepth 100000
set_option maxHeartbeats 1000000
namespace Go.RR
open Go Go.Proofs Go.RowKit

theorem look_walk {P O : List Int} {S L : Int} {bud : Nat} {W : World} {vP vO : Value} (hP : PcOK P S) (hL : 0 ≤ L ∧ L ≤ 10000) (hOx : ∀ x ∈ O, 0 ≤ x ∧ x < (P.length : Int)) (hOl : O.length ≤ 14) (hm : bud ≤ 20000)
    (hWP : Innr W (fun _ => False) 0 .i64 P vP) (hWO : Innr W (fun _ => False) 0 .i64 O vO) : ∀ rest : List Int, LookC P O S L bud W vP vO rest
  | [] => look_base hOl hm hWO
  | _ :: rest => look_step hP hL hOx hOl hm hWP hWO (look_walk hP hL hOx hOl hm hWP hWO rest)
/-- What a search ends with. -/
def ansB : Option SSt → List (List Int) × Int × Int
  | some st => (st.best, (st.looks : Int), 0)
  | none => ([], 0, 7)
/-- The plan, how many looks it took, and the code. -/
def least (L S : Int) (P : List Int) (bud : Int) : List (List Int) × Int × Int :=
  cond (sawB L S P && decide (0 ≤ bud ∧ bud ≤ 20000)) (ansB (goB P S L bud.toNat (ordP P) [] ⟨false, [], 0⟩)) ([], 0, 2)
section
variable {L S : Int} {P : List Int} {w : World} {vP : Value}
theorem bars_call (hl : P.length ≤ 2000000) (h : Innr w (fun _ => False) 0 .i64 P vP) : Calls Try.prog 36 #[.int .i64 L, .int .i64 S, vP] w fun e w' => e = .returned (.bool (sawB L S P)) ∧ Below w.heap.size w w' := by
  refine (f_iareBars_sound [.v (.int .i64 L), .v (.int .i64 S), .lst (.one (.i .i64)) P] (sawB L S P) (bars_run hl) w [.int .i64 L, .int .i64 S, vP] trivial ⟨_, _, rfl, argv_int L, _, _, rfl, argv_int S, _, _, rfl, h.argL, rfl⟩).mono ?_
  rintro e w' ⟨v, rfl, h, hB⟩
  rw [res_one h]
  exact ⟨rfl, hB⟩
theorem in_call (x a b : Int) (w : World) : Calls Try.prog 27 #[.int .i64 x, .int .i64 a, .int .i64 b] w fun e w' => e = .returned (.bool (decide (a ≤ x ∧ x ≤ b))) ∧ Below w.heap.size w w' := by
  have := bool_call1 (w := w) f_iwithin_sound (b := s_iwithin x a b) (rs := [.v (.int .i64 x), .v (.int .i64 a), .v (.int .i64 b)]) rfl (ints_arg [x, a, b])
  rwa [within_eq] at this
theorem long_call (hPc : PcOK P S) (h : Innr w (fun _ => False) 0 .i64 P vP) : Calls Try.prog 37 #[vP] w fun e w' => ∃ ao m c, e = .returned (.slice ao m c) ∧ Innr w' (fun _ => False) 0 .i64 (ordP P) (.slice ao m c) ∧ Below w.heap.size w w' := by
  refine (f_ilongestFirst_sound [.lst (.one (.i .i64)) P] (ordP P) (longI_run hPc) w [vP] trivial ⟨_, [], rfl, h.argL, rfl⟩).mono ?_
  rintro e w' ⟨v, rfl, ⟨_, hres, _⟩, hB⟩
  have h2 := flat_of_res (b := 0) (Nat.zero_le _) (hres 0 _ _ rfl rfl)
  obtain ⟨ao, c, e2, h3⟩ := id h2
  subst e2
  exact ⟨ao, _, c, rfl, h2, hB⟩
theorem Sw.first (w : World) (L S : Int) (vP vO : Value) (bud : Nat) (ty : TypeId) : Sw (w.alloc (.cells (IB L S vP vO (.slice none 0 0) (.slice none 0 0) false 0 bud) ty)) w.heap.size L S vP vO bud [] ⟨false, [], 0⟩ (.slice none 0 0) [] (.slice none 0 0) [] :=
  ⟨⟨ty, alloc_at w _⟩, NT.nil _ _, RO.nil _ _, fun g hg => by
    rcases hg with e | ⟨u, hu, _⟩
    · cases e
    · cases hu⟩
theorem nest_nil (w : World) (lo : Nat) : NestV w lo .i64 [] (.slice none 0 0) [] := ⟨⟨rfl, fun i u h => by simp at h, fun i j u v _ h => by simp at h⟩, .inl ⟨rfl, none, rfl⟩, fun g h => (nomatch h), fun u h => (nomatch h)⟩
theorem bars0 (P : List Int) : BarsOK P 0 [] := ⟨Nat.le_refl _, fun r hr => (nomatch hr)⟩
theorem look_all {bud : Nat} (hPc : PcOK P S) (hL : 0 ≤ L ∧ L ≤ 10000) (hm : bud ≤ 20000) {w3 : World} {vO : Value} (h : Innr w3 (fun _ => False) 0 .i64 P vP) (hvO : Innr w3 (fun _ => False) 0 .i64 (ordP P) vO) {R : Option SSt} (hR : goB P S L bud (ordP P) [] ⟨false, [], 0⟩ = R) :
    Calls Try.prog 38 #[.pointer (some ⟨w3.heap.size, 0, none⟩), .int .i64 ((0 : Nat) : Int)] (w3.alloc (.cells (IB L S vP vO (.slice none 0 0) (.slice none 0 0) false 0 bud) 57)) fun e w' => LPost (w3.alloc (.cells (IB L S vP vO (.slice none 0 0) (.slice none 0 0) false 0 bud) 57)) w3.heap.size L S vP vO bud [] e w' R := by
  have hO := ordP_ok P
  have hl := hPc.len
  have h1 := look_walk hPc hL hO.2 (by omega) hm h hvO (ordP P) 0 List.drop_zero (Nat.zero_le _) [] ⟨false, [], 0⟩ _ _ _ _ _ (bars0 P) (Nat.zero_le _) ((Below.refl _ _).alloc (Nat.le_refl _) _) (Sw.first w3 L S vP vO bud 57)
  rw [hR] at h1
  exact h1
theorem ileast_ok {bud : Nat} (hs : sawB L S P = true) (hm : bud ≤ 20000) (h : Innr w (fun _ => False) 0 .i64 P vP) :
    Calls Try.prog 12 #[.int .i64 L, .int .i64 S, vP, .int .i64 (bud : Int)] w fun e w' => ∃ v vs, e = .returned (.tuple #[v, .int .i64 (ansB (goB P S L bud (ordP P) [] ⟨false, [], 0⟩)).2.1, .int .i64 (ansB (goB P S L bud (ordP P) [] ⟨false, [], 0⟩)).2.2]) ∧ NestV w' w.heap.size .i64 (ansB (goB P S L bud (ordP P) [] ⟨false, [], 0⟩)).1 v vs ∧ Below w.heap.size w w' := by
  obtain ⟨aoP, cP, rfl, _⟩ := id h
  obtain ⟨hPc, hL0, hL1, _⟩ := sawB_ok hs
  have hO := ordP_ok P
  have hl := hPc.len
  have c36 := bars_call (L := L) (S := S) (show P.length ≤ 2000000 by omega) h
  rw [hs] at c36
  have c27 : ∀ w', Calls Try.prog 27 #[.int .i64 (bud : Int), .int .i64 0, .int .i64 20000] w' fun e w2 => e = .returned (.bool true) ∧ Below w'.heap.size w' w2 := fun w' => by
    have := in_call (bud : Int) 0 20000 w'
    rwa [decide_eq_true (by omega)] at this
  have c37 : ∀ w', Below w.heap.size w w' → Calls Try.prog 37 #[.slice aoP P.length cP] w' fun e w2 => ∃ ao m c, e = .returned (.slice ao m c) ∧ Innr w2 (fun _ => False) 0 .i64 (ordP P) (.slice ao m c) ∧ Below w'.heap.size w' w2 := fun w' hb => long_call hPc (h.old hb)
  obtain ⟨R, hR⟩ : ∃ R, goB P S L bud (ordP P) [] ⟨false, [], 0⟩ = R := ⟨_, rfl⟩
  have A38 : Aside (∀ (w3 : World) (vO : Value), Below w.heap.size w w3 → Innr w3 (fun _ => False) 0 .i64 (ordP P) vO → Calls Try.prog 38 #[.pointer (some ⟨w3.heap.size, 0, none⟩), .int .i64 ((0 : Nat) : Int)] (w3.alloc (.cells (IB L S (.slice aoP P.length cP) vO (.slice none 0 0) (.slice none 0 0) false 0 bud) 57)) fun e w' => LPost (w3.alloc (.cells (IB L S (.slice aoP P.length cP) vO (.slice none 0 0) (.slice none 0 0) false 0 bud) 57)) w3.heap.size L S (.slice aoP P.length cP) vO bud [] e w' R) :=
    fun w3 vO hb hvO => look_all hPc ⟨hL0, hL1⟩ hm (h.old hb) hvO hR
  rw [hR]
  clear hs hPc hL0 hL1 hO hl h hR
  cases R with
  | none =>
    go_enter Try.func12, Try.ntmps12
    go_wp2_with (first
      | (go_at_call 36; refine c36.mono ?_; rintro e w1 ⟨rfl, hb1⟩)
      | (go_at_call 27; refine (c27 _).mono ?_; rintro e w2 ⟨rfl, hb2⟩; replace hb2 := hb1.trans (hb2.mono hb1.size))
      | (go_at_call 37; refine (c37 _ hb2).mono ?_; rintro e w3 ⟨ao3, m3, c3, rfl, hO3, hb3⟩; replace hb3 := hb2.trans (hb3.mono hb2.size))
      | (go_at_call 38; refine Calls.mono (A38.out w3 _ hb3 hO3) ?_; rintro e w5 ⟨rfl, hb5⟩))
    go_ret3
    exact ⟨_, [], rfl, nest_nil _ _, (hb3.alloc hb3.size _).trans (hb5.mono hb3.size)⟩
  | some st =>
    go_enter Try.func12, Try.ntmps12
    go_wp2_with (first
      | (go_at_call 36; refine c36.mono ?_; rintro e w1 ⟨rfl, hb1⟩)
      | (go_at_call 27; refine (c27 _).mono ?_; rintro e w2 ⟨rfl, hb2⟩; replace hb2 := hb1.trans (hb2.mono hb1.size))
      | (go_at_call 37; refine (c37 _ hb2).mono ?_; rintro e w3 ⟨ao3, m3, c3, rfl, hO3, hb3⟩; replace hb3 := hb2.trans (hb3.mono hb2.size))
      | (go_at_call 38; refine Calls.mono (A38.out w3 _ hb3 hO3) ?_; rintro e w5 ⟨rfl, hb5, hlk, vB, vs, vb, bs, hS⟩))
    obtain ⟨ab, cb, rfl⟩ := hS.ro.slice
    have d5 : w5.cell? ⟨w3.heap.size, 5, none⟩ = some (.slice ab st.best.length cb) := hS.bx.cell 5
    have d7 : w5.cell? ⟨w3.heap.size, 7, none⟩ = some (.int .i64 (st.looks : Int)) := hS.bx.cell 7
    have AS : Aside _ := hS
    have AB : Aside (Below w.heap.size w w5) := (hb3.alloc hb3.size _).trans (hb5.mono hb3.size)
    have hsz := hb3.size
    clear hS hb5 hO3
    go_quiet (fail)
    go_wp2
    go_ret3
    have h1 := AS.out.ro.nestV
    exact ⟨_, bs, rfl, (h1.lower (by omega)).below ⟨rfl, rfl, rfl, Nat.le_refl _, fun _ _ => rfl⟩, below_same AB.out _ rfl⟩
end
end Go.RR
namespace Go.RR
open Go Go.Proofs Go.RowKit

theorem Innr.fl {W w : World} {b : Nat} {l : List Int} {v : Value} (h : Innr W (fun _ => False) 0 .i64 l v) (hb : Below W.heap.size W w) (hn : W.heap.size ≤ b) : Fl w b l v := by
  obtain ⟨ao, cap, e, h1, h2⟩ := h
  refine ⟨ao, cap, e, h1, fun hl => ?_⟩
  obtain ⟨g, o, e2, h3, h4, _, h6⟩ := h2 hl
  exact ⟨g, o, e2, h3, by have := hb.size; omega, fun e => by have e : g = b := e; omega, h6.keep (hb.block g h4)⟩
section
variable {L S : Int} {P : List Int} {w : World} {vP : Value}
theorem sawn_call (hl : P.length ≤ 2000000) (h : Innr w (fun _ => False) 0 .i64 P vP) : Calls Try.prog 33 #[.int .i64 L, .int .i64 S, vP] w fun e w' => e = .returned (.bool (sawB L S P)) ∧ Below w.heap.size w w' := by
  refine (f_sl04Sawn_sound [.v (.int .i64 L), .v (.int .i64 S), .lst (.one (.i .i64)) P] (sawB L S P) (sawn_run hl) w [.int .i64 L, .int .i64 S, vP] trivial ⟨_, _, rfl, argv_int L, _, _, rfl, argv_int S, _, _, rfl, h.argL, rfl⟩).mono ?_
  rintro e w' ⟨v, rfl, h, hB⟩
  rw [res_one h]
  exact ⟨rfl, hB⟩
theorem sin_call (x a b : Int) (w : World) : Calls Try.prog 21 #[.int .i64 x, .int .i64 a, .int .i64 b] w fun e w' => e = .returned (.bool (decide (a ≤ x ∧ x ≤ b))) ∧ Below w.heap.size w w' := by
  have := bool_call1 (w := w) f_sl00In_sound (b := s_sl00In x a b) (rs := [.v (.int .i64 x), .v (.int .i64 a), .v (.int .i64 b)]) rfl (ints_arg [x, a, b])
  rwa [in_eq] at this
theorem slong_call (hPc : PcOK P S) (h : Innr w (fun _ => False) 0 .i64 P vP) : Calls Try.prog 34 #[vP] w fun e w' => ∃ ao m c, e = .returned (.slice ao m c) ∧ Innr w' (fun _ => False) 0 .i64 (ordP P) (.slice ao m c) ∧ Below w.heap.size w w' := by
  refine (f_sl04Longest_sound [.lst (.one (.i .i64)) P] (ordP P) (longS_run hPc.len) w [vP] trivial ⟨_, [], rfl, h.argL, rfl⟩).mono ?_
  rintro e w' ⟨v, rfl, ⟨_, hres, _⟩, hB⟩
  have h2 := flat_of_res (b := 0) (Nat.zero_le _) (hres 0 _ _ rfl rfl)
  obtain ⟨ao, c, e2, h3⟩ := id h2
  subst e2
  exact ⟨ao, _, c, rfl, h2, hB⟩
abbrev barsA (l : List (List Int)) : A := .lst (.one (.ls .i64)) l
theorem from_all {bud : Nat} (hPc : PcOK P S) (hL : 0 ≤ L ∧ L ≤ 10000) (hm : bud ≤ 20000) {w3 : World} {vO : Value} (h : Innr w3 (fun _ => False) 0 .i64 P vP) (hvO : Innr w3 (fun _ => False) 0 .i64 (ordP P) vO) (o : Obj) (ao : Option Addr) (c : Nat) {R : Option SSt} (hR : goB P S L bud (ordP P) [] ⟨false, [], 0⟩ = R) :
    Calls Try.prog 35 #[.pointer (some ⟨w3.heap.size, 0, none⟩), .int .i64 ((0 : Nat) : Int), .slice ao 0 c] ((w3.alloc (.cells (SB L S vP vO bud 0 false false (.slice none 0 0)) 53)).alloc o) fun e w' => e = .returned (.tuple #[]) ∧ Only w3.heap.size ((w3.alloc (.cells (SB L S vP vO bud 0 false false (.slice none 0 0)) 53)).alloc o) w' ∧ FPost L S vP vO bud w3.heap.size w' R := by
  have hO := ordP_ok P
  have hl := hPc.len
  have hB1 : Below w3.heap.size w3 (w3.alloc (.cells (SB L S vP vO bud 0 false false (.slice none 0 0)) 53)) := (Below.refl _ _).alloc (Nat.le_refl _) _
  have hB2 : Below w3.heap.size w3 ((w3.alloc (.cells (SB L S vP vO bud 0 false false (.slice none 0 0)) 53)).alloc o) := hB1.alloc (by rw [alloc_size]; omega) o
  have hbx : Bx ((w3.alloc (.cells (SB L S vP vO bud 0 false false (.slice none 0 0)) 53)).alloc o) w3.heap.size (SB L S vP vO bud 0 false false (.slice none 0 0)) :=
    Bx.keep (w := w3.alloc (.cells (SB L S vP vO bud 0 false false (.slice none 0 0)) 53)) ⟨53, alloc_at w3 _⟩ (Below.heap_alloc _ o _ (by rw [alloc_size]; omega))
  have h1 := from_walk hPc hL hO.2 (by omega) hm (ordP P) 0 List.drop_zero (Nat.zero_le _) [] ⟨false, [], 0⟩ (.slice ao 0 c) (.slice none 0 0) _ (bars0 P) (Nat.zero_le _) (h.fl hB2 (Nat.le_refl _)) (hvO.fl hB2 (Nat.le_refl _)) (Near.nil _ _ ao c) (Near.nil _ _ none 0) hbx
  rw [hR] at h1
  exact h1
theorem sleast_ok {bud : Nat} (hs : sawB L S P = true) (hm : bud ≤ 20000) (h : Innr w (fun _ => False) 0 .i64 P vP) :
    Calls Try.prog 10 #[.int .i64 L, .int .i64 S, vP, .int .i64 (bud : Int)] w fun e w' => ∃ v, e = .returned (.tuple #[v, .int .i64 (ansB (goB P S L bud (ordP P) [] ⟨false, [], 0⟩)).2.1, .int .i64 (ansB (goB P S L bud (ordP P) [] ⟨false, [], 0⟩)).2.2]) ∧ ArgV w' (barsA (ansB (goB P S L bud (ordP P) [] ⟨false, [], 0⟩)).1) v ∧ Below w.heap.size w w' := by
  obtain ⟨aoP, cP, rfl, _⟩ := id h
  obtain ⟨hPc, hL0, hL1, _⟩ := sawB_ok hs
  have hO := ordP_ok P
  have hl := hPc.len
  have c33 := sawn_call (L := L) (S := S) (show P.length ≤ 2000000 by omega) h
  rw [hs] at c33
  have c21 : ∀ w', Calls Try.prog 21 #[.int .i64 (bud : Int), .int .i64 0, .int .i64 20000] w' fun e w2 => e = .returned (.bool true) ∧ Below w'.heap.size w' w2 := fun w' => by
    have := sin_call (bud : Int) 0 20000 w'
    rwa [decide_eq_true (by omega)] at this
  have c34 : ∀ w', Below w.heap.size w w' → Calls Try.prog 34 #[.slice aoP P.length cP] w' fun e w2 => ∃ ao m c, e = .returned (.slice ao m c) ∧ Innr w2 (fun _ => False) 0 .i64 (ordP P) (.slice ao m c) ∧ Below w'.heap.size w' w2 := fun w' hb => slong_call hPc (h.old hb)
  obtain ⟨R, hR⟩ : ∃ R, goB P S L bud (ordP P) [] ⟨false, [], 0⟩ = R := ⟨_, rfl⟩
  have A35 : Aside (∀ (w3 : World) (vO : Value) (o : Obj) (ao : Option Addr) (c : Nat), Below w.heap.size w w3 → Innr w3 (fun _ => False) 0 .i64 (ordP P) vO → Calls Try.prog 35 #[.pointer (some ⟨w3.heap.size, 0, none⟩), .int .i64 ((0 : Nat) : Int), .slice ao 0 c] ((w3.alloc (.cells (SB L S (.slice aoP P.length cP) vO bud 0 false false (.slice none 0 0)) 53)).alloc o) fun e w' => e = .returned (.tuple #[]) ∧ Only w3.heap.size ((w3.alloc (.cells (SB L S (.slice aoP P.length cP) vO bud 0 false false (.slice none 0 0)) 53)).alloc o) w' ∧ FPost L S (.slice aoP P.length cP) vO bud w3.heap.size w' R) :=
    fun w3 vO o ao c hb hvO => from_all hPc ⟨hL0, hL1⟩ hm (h.old hb) hvO o ao c hR
  rw [hR]
  clear hs hPc hL0 hL1 hO hl h hR
  have fin : ∀ (w3 w' : World) (o1 o2 : Obj), Below w.heap.size w w3 → Only w3.heap.size ((w3.alloc o1).alloc o2) w' → Below w.heap.size w w' := fun w3 w' o1 o2 hb hO => by
    have h1 : Below w.heap.size w ((w3.alloc o1).alloc o2) := (hb.alloc hb.size _).alloc (by have := hb.size; rw [alloc_size]; omega) _
    exact h1.trans (hO.below hb.size h1.size)
  cases R with
  | none =>
    go_enter Try.func10, Try.ntmps10
    go_wp2_with (first
      | (go_at_call 33; refine c33.mono ?_; rintro e w1 ⟨rfl, hb1⟩)
      | (go_at_call 21; refine (c21 _).mono ?_; rintro e w2 ⟨rfl, hb2⟩; replace hb2 := hb1.trans (hb2.mono hb1.size))
      | (go_at_call 34; refine (c34 _ hb2).mono ?_; rintro e w3 ⟨ao3, m3, c3, rfl, hO3, hb3⟩; replace hb3 := hb2.trans (hb3.mono hb2.size))
      | (go_at_call 35; refine Calls.mono (A35.out w3 _ _ _ _ hb3 hO3) ?_; rintro e w5 ⟨rfl, hO5, lk, fd, vb, hB5⟩; have d6 : w5.cell? ⟨w3.heap.size, 6, none⟩ = some (.bool true) := hB5.cell 6))
    go_ret3
    have hb5 := fin _ _ _ _ hb3 hO5
    exact ⟨_, rfl, (Near.nil _ 0 _ _).arg, hb5.alloc hb5.size _⟩
  | some st =>
    go_enter Try.func10, Try.ntmps10
    go_wp2_with (first
      | (go_at_call 33; refine c33.mono ?_; rintro e w1 ⟨rfl, hb1⟩)
      | (go_at_call 21; refine (c21 _).mono ?_; rintro e w2 ⟨rfl, hb2⟩; replace hb2 := hb1.trans (hb2.mono hb1.size))
      | (go_at_call 34; refine (c34 _ hb2).mono ?_; rintro e w3 ⟨ao3, m3, c3, rfl, hO3, hb3⟩; replace hb3 := hb2.trans (hb3.mono hb2.size))
      | (go_at_call 35; refine Calls.mono (A35.out w3 _ _ _ _ hb3 hO3) ?_; rintro e w5 ⟨rfl, hO5, hlk, vb, hNb, hB5⟩; obtain ⟨ab, cb, rfl⟩ := hNb.slice; have d5 : w5.cell? ⟨w3.heap.size, 5, none⟩ = some (.int .i64 (st.looks : Int)) := hB5.cell 5; have d6 : w5.cell? ⟨w3.heap.size, 6, none⟩ = some (.bool false) := hB5.cell 6; have d8 : w5.cell? ⟨w3.heap.size, 8, none⟩ = some (.slice ab st.best.length cb) := hB5.cell 8))
    have AN : Aside (Near w5 w3.heap.size st.best (.slice ab st.best.length cb)) := hNb
    have AB : Aside (Below w.heap.size w w5) := fin _ _ _ _ hb3 hO5
    clear hNb hB5 hO5 hO3 fin
    go_quiet (fail)
    go_wp2
    go_ret3
    exact ⟨_, rfl, (AN.out.keep ((Only.refl _ w5).drewN _)).arg, below_same AB.out _ rfl⟩
end
end Go.RR
