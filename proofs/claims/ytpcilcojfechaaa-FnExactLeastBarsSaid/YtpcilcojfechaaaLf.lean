/- The reference's search for the fewest bars, walked: the recursion. No condition but the ranges. -/
import Derived.Test.YtpcilcojfechaaaLe
set_option linter.unusedVariables false
set_option linter.unusedSimpArgs false
set_option maxRecDepth 100000
set_option maxHeartbeats 4000000
namespace Go.RR
open Go Go.Proofs Go.RowKit

section
variable {P O : List Int} {S L : Int} {bud b : Nat} {vP vO : Value}
/-- What a call of the search asks, and hands back. -/
def FromC (P O : List Int) (S L : Int) (bud b : Nat) (vP vO : Value) (rest : List Int) : Prop :=
  ∀ (i : Nat), O.drop i = rest → i ≤ O.length → ∀ (bars : List (List Int)) (st : SSt) (v vb : Value) (w : World), BarsOK P i bars → st.looks ≤ bud → Fl w b P vP → Fl w b O vO → Near w b bars v → Near w b st.best vb → Bx w b (SB L S vP vO bud st.looks false st.found vb) →
    Calls Try.prog 35 #[.pointer (some ⟨b, 0, none⟩), .int .i64 (i : Int), v] w fun e w' => e = .returned (.tuple #[]) ∧ Only b w w' ∧ FPost L S vP vO bud b w' (goB P S L bud rest bars st)
theorem from_base (hOl : O.length ≤ 14) (hm : bud ≤ 20000) : FromC P O S L bud b vP vO [] := by
  intro i hd hi bars st v vb w hbars hlk hP hO hv hvb hB
  obtain rfl : i = O.length := by
    have := congrArg List.length hd
    rw [List.length_drop, List.length_nil] at this
    omega
  obtain ⟨aoO, cO, rfl, _⟩ := id hO
  obtain ⟨ao, c, rfl⟩ := hv.slice
  obtain ⟨ab, cb, rfl⟩ := hvb.slice
  have c3 : w.cell? ⟨b, 3, none⟩ = some (.slice aoO O.length cO) := hB.cell 3
  have c7 : w.cell? ⟨b, 7, none⟩ = some (.bool st.found) := hB.cell 7
  have c8 : w.cell? ⟨b, 8, none⟩ = some (.slice ab st.best.length cb) := hB.cell 8
  have f7 := hB.frozen 7
  have f8 := hB.frozen 8
  have hbl := hbars.1
  have A1 : Aside (Near w b bars (.slice ao bars.length c)) := hv
  have A2 : Aside (Near w b st.best (.slice ab st.best.length cb)) := hvb
  have A3 : Aside (Bx w b (SB L S vP (.slice aoO O.length cO) bud st.looks false st.found (.slice ab st.best.length cb))) := hB
  have A4 : Aside (st.looks ≤ bud) := hlk
  obtain ⟨fd, best, lk⟩ := st
  clear hv hvb hB hlk hP hO hbars hd
  cases fd with
  | false =>
    go_enter Try.func35, Try.ntmps35
    go_wp2
    (try simp only [Exit.inBlock, Exit.then])
    refine bodyPost_ret (results_none rfl _ _ _) rfl ?_
    exact ⟨rfl, ((Only.refl b w).set _).set _, A4.out, _, A1.out.keep (((Only.refl b w).set _).set _), (A3.out.set 7 (.bool true)).set 8 _⟩
  | true =>
    by_cases hlt : bars.length < best.length
    · have hltz : (bars.length : Int) < (best.length : Int) := by omega
      have hg : goB P S L bud [] bars ⟨true, best, lk⟩ = some ⟨true, bars, lk⟩ := by simp only [goB, blt_true hlt]; rfl
      rw [hg]
      go_enter Try.func35, Try.ntmps35
      go_wp2
      (try simp only [Exit.inBlock, Exit.then])
      refine bodyPost_ret (results_none rfl _ _ _) rfl ?_
      exact ⟨rfl, ((Only.refl b w).set _).set _, A4.out, _, A1.out.keep (((Only.refl b w).set _).set _), (A3.out.set 7 (.bool true)).set 8 _⟩
    · have hltz : ¬ (bars.length : Int) < (best.length : Int) := by omega
      have hg : goB P S L bud [] bars ⟨true, best, lk⟩ = some ⟨true, best, lk⟩ := by simp only [goB, blt_false (show best.length ≤ bars.length by omega)]; rfl
      rw [hg]
      go_enter Try.func35, Try.ntmps35
      go_wp2
      (try simp only [Exit.inBlock, Exit.then])
      refine bodyPost_ret (results_none rfl _ _ _) rfl ?_
      exact ⟨rfl, Only.refl b w, A4.out, _, A2.out, A3.out⟩
theorem from_step (hP : PcOK P S) (hL : 0 ≤ L ∧ L ≤ 10000) (hOx : ∀ x ∈ O, 0 ≤ x ∧ x < (P.length : Int)) (hOl : O.length ≤ 14) (hm : bud ≤ 20000) {k : Int} {rest : List Int} (ih : FromC P O S L bud b vP vO rest) : FromC P O S L bud b vP vO (k :: rest) := by
  intro i hd hi bars st v vb w hbars hlk hFP hFO hv hvb hB
  have hi2 : i < O.length := by
    have := congrArg List.length hd
    rw [List.length_drop, List.length_cons] at this
    omega
  have hd2 : O.drop (i + 1) = rest := by rw [← List.drop_drop, hd]; rfl
  have hki : O.getD i 0 = k := by
    rw [List.drop_eq_getElem_cons hi2] at hd
    rw [List.getD_eq_getElem?_getD, List.getElem?_eq_getElem hi2]
    exact (List.cons.inj hd).1
  have hk := hOx k (by rw [← hki]; exact getD_mem' hi2)
  have hPne : P ≠ [] := by rintro rfl; simp at hk; omega
  have hOne : O ≠ [] := by rintro rfl; simp at hi2
  obtain ⟨gP, oP, cP, rfl⟩ := hFP.open hPne
  obtain ⟨gO, oO, cO, rfl⟩ := hFO.open hOne
  obtain ⟨ao, c, rfl⟩ := hv.slice
  have IH : Aside (FromC P O S L bud b (.slice (some ⟨gP, oP, none⟩) P.length cP) (.slice (some ⟨gO, oO, none⟩) O.length cO) rest) := ih
  have cOi := hFO.at hi2
  rw [hki] at cOi
  obtain ⟨kn, rfl⟩ : ∃ kn : Nat, k = kn := ⟨k.toNat, by omega⟩
  have c3 : w.cell? ⟨b, 3, none⟩ = some (.slice (some ⟨gO, oO, none⟩) O.length cO) := hB.cell 3
  have hi14 : i + 1 ≤ 14 := by omega
  have hn14 : bars.length ≤ 14 := by have := hbars.1; omega
  obtain ⟨T, hT⟩ : ∃ T, tryAll (goB P S L bud rest) (fun r => fitB P S L r (kn : Int)) bud bars (kn : Int) (List.range' 0 bars.length) st = T := ⟨_, rfl⟩
  have hG : goB P S L bud ((kn : Int) :: rest) bars st = T.bind (newB (goB P S L bud rest) bud bars (kn : Int)) := by rw [← hT]; rfl
  rw [hG]
  obtain ⟨R, hR⟩ : ∃ R, T.bind (newB (goB P S L bud rest) bud bars (kn : Int)) = R := ⟨_, rfl⟩
  rw [hR]
  have AR : Aside (T.bind (newB (goB P S L bud rest) bud bars (kn : Int)) = R) := hR
  have h0 : Aside (FPost L S (.slice (some ⟨gP, oP, none⟩) P.length cP) (.slice (some ⟨gO, oO, none⟩) O.length cO) bud b w (some st)) := ⟨hlk, vb, hvb, hB⟩
  have hT0 : Aside (T = (some st : Option SSt).bind (tryAll (goB P S L bud rest) (fun r => fitB P S L r (kn : Int)) bud bars (kn : Int) (List.range' 0 (bars.length - 0)))) := by rw [Nat.sub_zero, ← hT]; rfl
  have AP : Aside (Fl w b P (.slice (some ⟨gP, oP, none⟩) P.length cP)) := hFP
  have AO : Aside (Fl w b O (.slice (some ⟨gO, oO, none⟩) O.length cO)) := hFO
  have AV : Aside (Near w b bars (.slice ao bars.length c)) := hv
  have AB : Aside (BarsOK P i bars) := hbars
  have AD : Aside (O.drop (i + 1) = rest) := hd2
  have hPk := hP.get kn
  have hsaw := hP.saw
  have hcPk : Aside (∀ w', Only b w w' → w'.cell? ⟨gP, oP + kn, none⟩ = some (.int .i64 (P.getD kn 0))) := fun w' ho => (hFP.only ho).at (by omega)
  have hkr : (0 : Int) ≤ kn ∧ (kn : Int) < P.length := hk
  have AX : Aside (∀ x ∈ O, 0 ≤ x ∧ x < (P.length : Int)) := hOx
  have APc : Aside (PcOK P S) := hP
  clear hd hd2 hki hFP hFO hv hvb hB hbars hlk hT hG ih hk hOx hP hPne hOne hR
  have hne : ((i : Int) == (O.length : Int)) = false := by simp; omega
  go_enter Try.func35, Try.ntmps35
  go_wp2
  go_loopg [7] bars.length (fun gg s7 wr => ∃ (a : Nat) (X : Option SSt), s7 = .int .i64 (a : Int) ∧ a ≤ bars.length ∧ bars.length - a ≤ gg ∧ FPost L S (.slice (some ⟨gP, oP, none⟩) P.length cP) (.slice (some ⟨gO, oO, none⟩) O.length cO) bud b wr X ∧ T = X.bind (tryAll (goB P S L bud rest) (fun r => fitB P S L r (kn : Int)) bud bars (kn : Int) (List.range' a (bars.length - a))) ∧ Only b w wr)
  case atStart => exact ⟨0, some st, rfl, by omega, by omega, h0.out, hT0.out, Only.refl b w⟩
  case round =>
    obtain ⟨a, X, rfl, ha, hgg, hF, hTX, hO⟩ := hrel
    have hTX : Aside (T = X.bind (tryAll (goB P S L bud rest) (fun r => fitB P S L r (kn : Int)) bud bars (kn : Int) (List.range' a (bars.length - a)))) := hTX
    have hO : Aside (Only b w wr) := hO
    cases X with
    | none =>
      obtain ⟨lk, fd, vb1, hB1⟩ := hF
      have c6 : wr.cell? ⟨b, 6, none⟩ = some (.bool true) := hB1.cell 6
      have hB1 : Aside (Bx wr b (SB L S (.slice (some ⟨gP, oP, none⟩) P.length cP) (.slice (some ⟨gO, oO, none⟩) O.length cO) bud lk true fd vb1)) := hB1
      have hRe : Aside (R = none) := by have := AR.out; rw [show T = none from hTX.out] at this; exact this.symm
      by_cases hlt : a < bars.length
      · have hltz : (a : Int) < (bars.length : Int) := by omega
        go_wp2
        (try simp only [Exit.inBlock, Exit.then])
        refine bodyPost_ret (results_none rfl _ _ _) rfl ?_
        exact ⟨rfl, hO.out, by rw [hRe.out]; exact ⟨lk, fd, vb1, hB1.out⟩⟩
      · have hltz : ¬ (a : Int) < (bars.length : Int) := by omega
        go_wp2
        (try simp only [Exit.inBlock, Exit.then])
        refine bodyPost_ret (results_none rfl _ _ _) rfl ?_
        exact ⟨rfl, hO.out, by rw [hRe.out]; exact ⟨lk, fd, vb1, hB1.out⟩⟩
    | some st1 =>
      obtain ⟨fd, best, lk⟩ := st1
      obtain ⟨hlk, vb1, hNb, hB⟩ := hF
      replace hlk : lk ≤ bud := hlk
      replace hNb : Near wr b best vb1 := hNb
      replace hB : Bx wr b (SB L S (.slice (some ⟨gP, oP, none⟩) P.length cP) (.slice (some ⟨gO, oO, none⟩) O.length cO) bud lk false fd vb1) := hB
      obtain ⟨ab, cb, rfl⟩ := hNb.slice
      have c0 : wr.cell? ⟨b, 0, none⟩ = some (.int .i64 L) := hB.cell 0
      have c1 : wr.cell? ⟨b, 1, none⟩ = some (.int .i64 S) := hB.cell 1
      have c2 : wr.cell? ⟨b, 2, none⟩ = some (.slice (some ⟨gP, oP, none⟩) P.length cP) := hB.cell 2
      have c6 : wr.cell? ⟨b, 6, none⟩ = some (.bool false) := hB.cell 6
      have c7 : wr.cell? ⟨b, 7, none⟩ = some (.bool fd) := hB.cell 7
      have c8 : wr.cell? ⟨b, 8, none⟩ = some (.slice ab best.length cb) := hB.cell 8
      have hB : Aside (Bx wr b (SB L S (.slice (some ⟨gP, oP, none⟩) P.length cP) (.slice (some ⟨gO, oO, none⟩) O.length cO) bud lk false fd (.slice ab best.length cb))) := hB
      have hNb : Aside (Near wr b best (.slice ab best.length cb)) := hNb
      have hTX : Aside (T = tryAll (goB P S L bud rest) (fun r => fitB P S L r (kn : Int)) bud bars (kn : Int) (List.range' a (bars.length - a)) ⟨fd, best, lk⟩) := hTX.out
      by_cases hlt : a < bars.length
      · have hltz : (a : Int) < (bars.length : Int) := by omega
        have hrowOK := AB.out.row hlt
        have hNr : Near wr b bars (.slice ao bars.length c) := AV.out.keep hO.out
        obtain ⟨g', o', c', e⟩ := hNr.open (by rintro rfl; simp at hlt)
        simp only [Value.slice.injEq] at e
        obtain ⟨rfl, _, rfl⟩ := e
        obtain ⟨va, hcv, hrow⟩ := hNr.at hlt
        obtain ⟨gr, or, cr, rfl⟩ := hrow.open hrowOK.1
        have hcPkr := hcPk.out wr hO.out
        have hPr : Fl wr b P (.slice (some ⟨gP, oP, none⟩) P.length cP) := AP.out.only hO.out
        have c48 : ∀ m, Calls Try.prog 48 #[.slice (some ⟨gP, oP, none⟩) P.length cP, .int .i64 S, .slice (some ⟨gr, or, none⟩) (bars.getD a []).length cr] (wr.drewN m) fun e w' => e = .returned (.int .i64 (useP P S (bars.getD a []))) ∧ w' = wr.drewN m := fun m =>
          use_walk APc.out ⟨hrowOK.1, by have := hrowOK.2.1; omega, hrowOK.2.2⟩ (hPr.only ((Only.refl b wr).drewN m)) (hrow.only ((Only.refl b wr).drewN m))
        have c48d : Calls Try.prog 48 #[.slice (some ⟨gP, oP, none⟩) P.length cP, .int .i64 S, .slice (some ⟨gr, or, none⟩) (bars.getD a []).length cr] wr.drew fun e w' => e = .returned (.int .i64 (useP P S (bars.getD a []))) ∧ w' = wr.drew :=
          use_walk APc.out ⟨hrowOK.1, by have := hrowOK.2.1; omega, hrowOK.2.2⟩ (hPr.only ((Only.refl b wr).drew)) (hrow.only ((Only.refl b wr).drew))
        have hu := useP_range APc.out (bars.getD a [])
        have hul := hrowOK.2.1
        have hT2 : T = cond (fitB P S L (bars.getD a []) (kn : Int)) (cond (Nat.blt lk bud) ((goB P S L bud rest (putB bars a (kn : Int)) ⟨fd, best, lk + 1⟩).bind (tryAll (goB P S L bud rest) (fun r => fitB P S L r (kn : Int)) bud bars (kn : Int) (List.range' (a + 1) (bars.length - (a + 1))))) none) (tryAll (goB P S L bud rest) (fun r => fitB P S L r (kn : Int)) bud bars (kn : Int) (List.range' (a + 1) (bars.length - (a + 1))) ⟨fd, best, lk⟩) := by
          rw [hTX.out, show bars.length - a = (bars.length - (a + 1)) + 1 by omega, List.range'_succ]; rfl
        have hfit : fitB P S L (bars.getD a []) (kn : Int) = decide (useP P S (bars.getD a []) + S + P.getD kn 0 ≤ L) := rfl
        have hT2 : Aside (T = cond (fitB P S L (bars.getD a []) (kn : Int)) (cond (Nat.blt lk bud) ((goB P S L bud rest (putB bars a (kn : Int)) ⟨fd, best, lk + 1⟩).bind (tryAll (goB P S L bud rest) (fun r => fitB P S L r (kn : Int)) bud bars (kn : Int) (List.range' (a + 1) (bars.length - (a + 1))))) none) (tryAll (goB P S L bud rest) (fun r => fitB P S L r (kn : Int)) bud bars (kn : Int) (List.range' (a + 1) (bars.length - (a + 1))) ⟨fd, best, lk⟩)) := hT2
        clear hrow hNr hPr hrowOK hTX
        generalize (bars.getD a []).length = nr at *
        generalize useP P S (bars.getD a []) = u at *
        obtain ⟨p, hp⟩ : ∃ p, P.getD kn 0 = p := ⟨_, rfl⟩
        rw [hp] at hPk hcPkr hfit
        have hu2 : 0 ≤ u ∧ u ≤ 280000 := by omega
        have AF : Aside (fitB P S L (bars.getD a []) (kn : Int) = decide (u + S + p ≤ L)) := hfit
        clear hfit hu hul hp
        by_cases hf : u + S + p ≤ L
        · have hfd : Aside (decide (u + S + p ≤ L) = true) := decide_eq_true hf
          have hw1 : IntKind.wrap .i64 (u + S) = u + S := IntWalk.i64_in _ (by omega)
          have hw2 : IntKind.wrap .i64 (u + S + p) = u + S + p := IntWalk.i64_in _ (by omega)
          by_cases hbud : lk < bud
          · have AL : Aside (lk < bud) := hbud
            clear hbud
            go_wp2
            go_still_tail 33, (by kernel_rfl)
            still_call c48d
            repeat still_step
            refine wpStill_nil ?_
            change wpList _ _ _ _ _ wr.drew
            go_wp2_with (first
              | (go_at_call 49; refine (slook_yes hB.out.drew AL.out hm).mono ?_; rintro e w1 ⟨rfl, hB1, hO1⟩; have hO2 := ((Only.refl b wr).drew).trans hO1; have hD := hO.out.trans hO2)
              | (go_at_call 50; refine (put_call AB.out (by omega) ha (kn : Int) hB1.lt (AV.out.keep hD)).mono ?_; rintro e w2 ⟨ao2, m2, cc2, rfl, hN2, hb2⟩; have hD2 := hD.trans (Only.of hb2); rw [if_pos hlt] at hN2)
              | (go_at_call 35; show Calls _ 35 #[_, .int .i64 ((i + 1 : Nat) : Int), _] _ _; refine (IH.out (i + 1) AD.out hi2 _ ⟨fd, best, lk + 1⟩ _ _ w2 (AB.out.put hlt hkr) AL.out (AP.out.only hD2) (AO.out.only hD2) hN2 (hNb.out.keep (hO2.trans (Only.of hb2))) (hB1.below hb2)).mono ?_; rintro e w3 ⟨rfl, hO3, hF3⟩))
            go_roundg (bars.length - (a + 1))
            case measure => omega
            case rel =>
              refine ⟨a + 1, _, by go_num, by omega, by omega, hF3, ?_, hD2.trans hO3⟩
              rw [hT2.out, AF.out, hfd.out, blt_true AL.out]; rfl
          · obtain rfl : lk = bud := by omega
            clear hbud
            go_wp2
            go_still_tail 33, (by kernel_rfl)
            still_call c48d
            repeat still_step
            refine wpStill_nil ?_
            change wpList _ _ _ _ _ wr.drew
            go_wp2_with (first
              | (go_at_call 49; refine (slook_no hB.out.drew rfl hm).mono ?_; rintro e w1 ⟨rfl, hB1, hO1⟩; have hO2 := ((Only.refl b wr).drew).trans hO1; have hD := hO.out.trans hO2))
            go_roundg (bars.length - (a + 1))
            case measure => omega
            case rel =>
              refine ⟨a + 1, none, by go_num, by omega, by omega, ⟨_, _, _, hB1⟩, ?_, hD⟩
              rw [hT2.out, AF.out, hfd.out, blt_false (Nat.le_refl _)]; rfl
        · have hfd : decide (u + S + p ≤ L) = false := decide_eq_false hf
          clear hf
          go_wp2
          go_quiet (first | (go_at_call 48; exact Calls.quiet_of_same (c48 _)))
          go_wp2
          go_roundg (bars.length - (a + 1))
          case measure => omega
          case rel =>
            refine ⟨a + 1, some ⟨fd, best, lk⟩, by go_num, by omega, by omega, ⟨hlk, _, hNb.out.keep ((Only.refl b wr).drewN _), hB.out.drewN _⟩, ?_, hO.out.drewN _⟩
            rw [hT2.out, AF.out, hfd]; rfl
      · obtain rfl : a = bars.length := by omega
        have hltz : ¬ ((bars.length : Nat) : Int) < ((bars.length : Nat) : Int) := by omega
        have hTe : T = some ⟨fd, best, lk⟩ := by rw [hTX.out, Nat.sub_self]; rfl
        have hRe : R = newB (goB P S L bud rest) bud bars (kn : Int) ⟨fd, best, lk⟩ := by rw [← AR.out, hTe]; rfl
        have AN : Aside (R = newB (goB P S L bud rest) bud bars (kn : Int) ⟨fd, best, lk⟩) := hRe
        clear hTe hTX AR hT0 h0 hRe
        have fin : ∀ (Z : Bool), (fd && Nat.ble best.length (bars.length + 1)) = Z → Aside (R = cond Z (some ⟨fd, best, lk⟩) (cond (Nat.blt lk bud) (goB P S L bud rest (bars ++ [[(kn : Int)]]) ⟨fd, best, lk + 1⟩) none)) := fun Z hZ => by
          have h1 : R = cond (fd && Nat.ble best.length (bars.length + 1)) (some ⟨fd, best, lk⟩) (cond (Nat.blt lk bud) (goB P S L bud rest (bars ++ [[(kn : Int)]]) ⟨fd, best, lk + 1⟩) none) := AN.out
          rw [hZ] at h1; exact h1
        by_cases hback : fd = true ∧ best.length ≤ bars.length + 1
        · obtain ⟨rfl, hbl⟩ := hback
          have hge : (bars.length : Int) + 1 ≥ (best.length : Int) := by omega
          have fin := fin true (by rw [Bool.true_and]; exact Nat.ble_eq_true_of_le hbl)
          go_wp2
          (try simp only [Exit.inBlock, Exit.then])
          refine bodyPost_ret (results_none rfl _ _ _) rfl ?_
          exact ⟨rfl, hO.out, by rw [fin.out]; exact ⟨hlk, _, hNb.out, hB.out⟩⟩
        · have fin := fin false (by
            cases fd with
            | false => rfl
            | true =>
              rw [Bool.true_and]
              cases e : Nat.ble best.length (bars.length + 1) with
              | false => rfl
              | true => exact absurd ⟨rfl, Nat.le_of_ble_eq_true e⟩ hback)
          have hcase : fd = false ∨ (fd = true ∧ ¬ (bars.length : Int) + 1 ≥ (best.length : Int)) := by
            cases fd with
            | false => exact .inl rfl
            | true => exact .inr ⟨rfl, fun h => hback ⟨rfl, by omega⟩⟩
          clear hback
          by_cases hbud : lk < bud
          · have AL : Aside (lk < bud) := hbud
            clear hbud
            rcases hcase with rfl | ⟨rfl, hge⟩
            all_goals
              go_wp2_with (first
                | (go_at_call 49; refine (slook_yes hB.out AL.out hm).mono ?_; rintro e w1 ⟨rfl, hB1, hO1⟩; have hD := hO.out.trans hO1)
                | (go_at_call 50; refine (put_call AB.out (by omega) (Nat.le_refl _) (kn : Int) hB1.lt (AV.out.keep hD)).mono ?_; rintro e w2 ⟨ao2, m2, cc2, rfl, hN2, hb2⟩; have hD2 := hD.trans (Only.of hb2); rw [if_neg (Nat.lt_irrefl _)] at hN2)
                | (go_at_call 35; show Calls _ 35 #[_, .int .i64 ((i + 1 : Nat) : Int), _] _ _; refine (IH.out (i + 1) AD.out hi2 _ ⟨_, best, lk + 1⟩ _ _ w2 (AB.out.new hkr) AL.out (AP.out.only hD2) (AO.out.only hD2) hN2 (hNb.out.keep (hO1.trans (Only.of hb2))) (hB1.below hb2)).mono ?_; rintro e w3 ⟨rfl, hO3, hF3⟩))
              go_end0
              refine ⟨rfl, hD2.trans hO3, ?_⟩
              rw [fin.out, cond_false, blt_true AL.out, cond_true]
              exact hF3
          · obtain rfl : lk = bud := by omega
            clear hbud
            rcases hcase with rfl | ⟨rfl, hge⟩
            all_goals
              go_wp2_with (first
                | (go_at_call 49; refine (slook_no hB.out rfl hm).mono ?_; rintro e w1 ⟨rfl, hB1, hO1⟩; have hD := hO.out.trans hO1))
              go_end0
              refine ⟨rfl, hD, ?_⟩
              rw [fin.out, cond_false, blt_false (Nat.le_refl _), cond_false]
              exact ⟨_, _, _, hB1⟩
theorem from_walk (hP : PcOK P S) (hL : 0 ≤ L ∧ L ≤ 10000) (hOx : ∀ x ∈ O, 0 ≤ x ∧ x < (P.length : Int)) (hOl : O.length ≤ 14) (hm : bud ≤ 20000) : ∀ rest : List Int, FromC P O S L bud b vP vO rest
  | [] => from_base hOl hm
  | _ :: rest => from_step hP hL hOx hOl hm (from_walk hP hL hOx hOl hm rest)
end
end Go.RR
