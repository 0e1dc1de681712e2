/- The program's search for the fewest bars, walked: a piece is placed. No condition but the ranges. -/
import Derived.Test.YtpcilcojfechaaaLl
set_option linter.unusedVariables false
set_option linter.unusedSimpArgs false
set_option maxRecDepth 100000
set_option maxHeartbeats 8000000
namespace Go.RR
open Go Go.Proofs Go.RowKit

/-- A region whose ends differ in two numbers and a world alone. -/
def OnNormal (R : Act → World → Prop) : Exit → Act → World → Prop
  | .normal, a, w => R a w
  | _, _, _ => False
theorem wp_frame {P : Program} {c : Code} {Q : Exit → Act → World → Prop} {a : Act} {w : World} (A : Nat → Nat → Act) (F : Nat → Nat → World → Prop) (G : Nat → Nat → World → World) (h2 : c.wp P (OnNormal fun a' w' => ∃ g cap w8, F g cap w8 ∧ a' = A g cap ∧ w' = G g cap w8) a w) (h1 : ∀ g cap w8, F g cap w8 → Q .normal (A g cap) (G g cap w8)) : c.wp P Q a w := by
  refine Code.wp_mono ?_ h2
  intro e a' w' h
  cases e with
  | normal =>
    obtain ⟨g, cap, w8, hF, rfl, rfl⟩ := h
    exact h1 g cap w8 hF
  | _ => exact (h : False).elim
theorem look_step {P O : List Int} {S L : Int} {bud : Nat} {W : World} {vP vO : Value} (hP : PcOK P S) (hL : 0 ≤ L ∧ L ≤ 10000) (hOx : ∀ x ∈ O, 0 ≤ x ∧ x < (P.length : Int)) (hOl : O.length ≤ 14) (hm : bud ≤ 20000)
    (hWP : Innr W (fun _ => False) 0 .i64 P vP) (hWO : Innr W (fun _ => False) 0 .i64 O vO) {k : Int} {rest : List Int} (ih : LookC P O S L bud W vP vO rest) : LookC P O S L bud W vP vO (k :: rest) := by
  intro i hd hi bars st w vB vs vb bs hbars hlk hW hS
  have hi2 : i < O.length := by
    have := congrArg List.length hd
    rw [List.length_drop, List.length_cons] at this
    omega
  have hd2 : O.drop (i + 1) = rest := by rw [← List.drop_drop, hd]; rfl
  have hki : O.getD i 0 = k := by
    rw [List.drop_eq_getElem_cons hi2] at hd
    rw [List.getD_eq_getElem?_getD, List.getElem?_eq_getElem hi2]
    exact (List.cons.inj hd).1
  have hk := hOx k (by rw [← hki]; exact getD_mem' hi2)
  have hPne : P ≠ [] := by rintro rfl; simp at hk; omega
  have hOne : O ≠ [] := by rintro rfl; simp at hi2
  obtain ⟨gP, oP, cP, rfl⟩ := hWP.open hPne
  obtain ⟨gO, oO, cO, rfl⟩ := hWO.open hOne
  have cOi := (hWO.old hW).at hi2
  rw [hki] at cOi
  obtain ⟨kn, rfl⟩ : ∃ kn : Nat, k = kn := ⟨k.toNat, by omega⟩
  have AP : Aside (∀ w', Below W.heap.size w w' → Innr w' (fun _ => False) 0 .i64 P (.slice (some ⟨gP, oP, none⟩) P.length cP)) := fun w' h => hWP.old (hW.trans h)
  have IH : Aside (∀ (bars : List (List Int)) (st : SSt) (w2 : World) (vB : Value) (vs : List Value) (vb : Value) (bs : List Value), BarsOK P (i + 1) bars → st.looks ≤ bud → Below W.heap.size w w2 → Sw w2 W.heap.size L S (.slice (some ⟨gP, oP, none⟩) P.length cP) (.slice (some ⟨gO, oO, none⟩) O.length cO) bud bars st vB vs vb bs →
      Calls Try.prog 38 #[.pointer (some ⟨W.heap.size, 0, none⟩), .int .i64 ((i + 1 : Nat) : Int)] w2 fun e w' => LPost w2 W.heap.size L S (.slice (some ⟨gP, oP, none⟩) P.length cP) (.slice (some ⟨gO, oO, none⟩) O.length cO) bud bars e w' (goB P S L bud rest bars st)) :=
    fun bars st w2 vB vs vb bs h1 h2 h3 h4 => ih (i + 1) hd2 hi2 bars st w2 vB vs vb bs h1 h2 (hW.trans h3) h4
  clear ih hWP hWO hW hd hd2
  generalize W.heap.size = b at *
  clear W
  obtain ⟨aB, cB, rfl⟩ := hS.nt.slice
  have c3 : w.cell? ⟨b, 3, none⟩ = some (.slice (some ⟨gO, oO, none⟩) O.length cO) := hS.bx.cell 3
  have c4 : w.cell? ⟨b, 4, none⟩ = some (.slice aB bars.length cB) := hS.bx.cell 4
  have hi14 : i + 1 ≤ 14 := by omega
  have hn14 : bars.length ≤ 14 := by have := hbars.1; omega
  obtain ⟨T, hT⟩ : ∃ T, tryAll (goB P S L bud rest) (fun r => fitB P S L r (kn : Int)) bud bars (kn : Int) (List.range' 0 bars.length) st = T := ⟨_, rfl⟩
  have hG : goB P S L bud ((kn : Int) :: rest) bars st = T.bind (newB (goB P S L bud rest) bud bars (kn : Int)) := by rw [← hT]; rfl
  rw [hG]
  obtain ⟨R, hR⟩ : ∃ R, T.bind (newB (goB P S L bud rest) bud bars (kn : Int)) = R := ⟨_, rfl⟩
  rw [hR]
  have AR : Aside (T.bind (newB (goB P S L bud rest) bud bars (kn : Int)) = R) := hR
  have hT0 : Aside (T = tryAll (goB P S L bud rest) (fun r => fitB P S L r (kn : Int)) bud bars (kn : Int) (List.range' 0 (bars.length - 0)) st) := by rw [Nat.sub_zero, ← hT]; rfl
  have AS : Aside (Sw w b L S (.slice (some ⟨gP, oP, none⟩) P.length cP) (.slice (some ⟨gO, oO, none⟩) O.length cO) bud bars st (.slice aB bars.length cB) vs vb bs) := hS
  have ALk : Aside (st.looks ≤ bud) := hlk
  have AB : Aside (BarsOK P i bars) := hbars
  have AX : Aside (∀ x ∈ O, 0 ≤ x ∧ x < (P.length : Int)) := hOx
  have APc : Aside (PcOK P S) := hP
  have hkr : (0 : Int) ≤ kn ∧ (kn : Int) < P.length := hk
  have hne : ((i : Int) == (O.length : Int)) = false := by simp; omega
  clear hki hS hlk hbars hT hG hk hOx hP hPne hOne hR
  go_enter Try.func38, Try.ntmps38
  go_wp2
  go_loopg [74] bars.length (fun gg s74 wr => ∃ (a : Nat) (st1 : SSt) (vB : Value) (vs : List Value) (vb : Value) (bs : List Value), s74 = .int .i64 (a : Int) ∧ a ≤ bars.length ∧ bars.length - a ≤ gg ∧ st1.looks ≤ bud ∧ Sw wr b L S (.slice (some ⟨gP, oP, none⟩) P.length cP) (.slice (some ⟨gO, oO, none⟩) O.length cO) bud bars st1 vB vs vb bs ∧ T = tryAll (goB P S L bud rest) (fun r => fitB P S L r (kn : Int)) bud bars (kn : Int) (List.range' a (bars.length - a)) st1 ∧ Below b w wr)
  case atStart => exact ⟨0, st, _, vs, vb, bs, rfl, by omega, by omega, ALk.out, AS.out, hT0.out, Below.refl b w⟩
  case round =>
    obtain ⟨a, ⟨fd, best, lk⟩, vB1, vs1, vb1, bs1, rfl, ha, hgg, hlk, hS, hTX, hB⟩ := hrel
    have hTX : Aside (T = tryAll (goB P S L bud rest) (fun r => fitB P S L r (kn : Int)) bud bars (kn : Int) (List.range' a (bars.length - a)) ⟨fd, best, lk⟩) := hTX
    have hB : Aside (Below b w wr) := hB
    replace hlk : lk ≤ bud := hlk
    obtain ⟨aB1, cB1, rfl⟩ := hS.nt.slice
    obtain ⟨ab, cb, rfl⟩ := hS.ro.slice
    have d0 : wr.cell? ⟨b, 0, none⟩ = some (.int .i64 L) := hS.bx.cell 0
    have d1 : wr.cell? ⟨b, 1, none⟩ = some (.int .i64 S) := hS.bx.cell 1
    have d2 : wr.cell? ⟨b, 2, none⟩ = some (.slice (some ⟨gP, oP, none⟩) P.length cP) := hS.bx.cell 2
    have d4 : wr.cell? ⟨b, 4, none⟩ = some (.slice aB1 bars.length cB1) := hS.bx.cell 4
    by_cases hlt : a < bars.length
    · have hltz : (a : Int) < (bars.length : Int) := by omega
      have hrowOK := AB.out.row hlt
      obtain ⟨gB, cB', e⟩ := hS.nt.form (by rintro rfl; simp at hlt)
      simp only [Value.slice.injEq] at e
      obtain ⟨rfl, _, rfl⟩ := e
      obtain ⟨u, hu⟩ := hS.nt.at hlt
      obtain ⟨hrow, gu, cu, rfl⟩ := hS.nt.row a u hu
      have hcu := (hS.nt.cell hu).1
      have hin : Innr wr (fun _ => False) 0 .i64 (bars.getD a []) (.slice (some ⟨gu, 0, none⟩) (bars.getD a []).length cu) := ownsRow_innr hrow
      have hT2 : Aside (T = cond (fitB P S L (bars.getD a []) (kn : Int)) (cond (Nat.blt lk bud) ((goB P S L bud rest (putB bars a (kn : Int)) ⟨fd, best, lk + 1⟩).bind (tryAll (goB P S L bud rest) (fun r => fitB P S L r (kn : Int)) bud bars (kn : Int) (List.range' (a + 1) (bars.length - (a + 1))))) none) (tryAll (goB P S L bud rest) (fun r => fitB P S L r (kn : Int)) bud bars (kn : Int) (List.range' (a + 1) (bars.length - (a + 1))) ⟨fd, best, lk⟩)) := by
        rw [hTX.out, show bars.length - a = (bars.length - (a + 1)) + 1 by omega, List.range'_succ]; rfl
      have c55 : Calls Try.prog 55 #[.int .i64 L, .int .i64 S, .slice (some ⟨gP, oP, none⟩) P.length cP, .slice (some ⟨gu, 0, none⟩) (bars.getD a []).length cu, .int .i64 (kn : Int)] wr.drew fun e w' => e = .returned (.bool (fitB P S L (bars.getD a []) (kn : Int))) ∧ Below wr.heap.size wr.drew w' :=
        room_call APc.out hrowOK.1 (by have := hrowOK.2.1; omega) hrowOK.2.2 hkr (AP.out wr hB.out) hin (w := wr.drew)
      have AS1 : Aside (Sw wr b L S (.slice (some ⟨gP, oP, none⟩) P.length cP) (.slice (some ⟨gO, oO, none⟩) O.length cO) bud bars ⟨fd, best, lk⟩ (.slice (some ⟨gB, 0, none⟩) bars.length cB1) vs1 (.slice ab best.length cb) bs1) := hS
      have Au : Aside (vs1[a]? = some (.slice (some ⟨gu, 0, none⟩) (bars.getD a []).length cu)) := hu
      clear hrow hin hS hu hTX hrowOK
      cases hf : fitB P S L (bars.getD a []) (kn : Int) with
      | false =>
        rw [hf] at c55
        have hf : Aside (fitB P S L (bars.getD a []) (kn : Int) = false) := hf
        generalize (bars.getD a []).length = nr at *
        go_wp2
        go_still_tail 20, (by kernel_rfl)
        change wpList _ _ _ _ _ wr.drew
        go_wp2_with (go_at_call 55; refine c55.mono ?_; rintro e w6 ⟨rfl, hb6⟩)
        go_roundg (bars.length - (a + 1))
        case measure => omega
        case rel =>
          have hb6' : Below wr.heap.size wr w6 := ⟨hb6.os, hb6.tape, hb6.output, hb6.size, hb6.block⟩
          have h1 := AS1.out
          refine ⟨a + 1, ⟨fd, best, lk⟩, _, _, _, _, by go_num, by omega, by omega, hlk, h1.below hb6', ?_, hB.out.trans (hb6'.mono (by have := h1.bx.lt; omega))⟩
          rw [hT2.out, hf.out]; rfl
      | true =>
        rw [hf] at c55
        have hf : Aside (fitB P S L (bars.getD a []) (kn : Int) = true) := hf
        have hW6 : Aside (∀ w6, Below wr.heap.size wr.drew w6 → Sw w6 b L S (.slice (some ⟨gP, oP, none⟩) P.length cP) (.slice (some ⟨gO, oO, none⟩) O.length cO) bud bars ⟨fd, best, lk⟩ (.slice (some ⟨gB, 0, none⟩) bars.length cB1) vs1 (.slice ab best.length cb) bs1 ∧ Below b w w6 ∧ w6.cell? ⟨b, 7, none⟩ = some (.int .i64 (lk : Int)) ∧ w6.cell? ⟨b, 8, none⟩ = some (.int .i64 (bud : Int)) ∧ w6.frozen? ⟨b, 7, none⟩ = false) := fun w6 hb6 => by
          have hb6' : Below wr.heap.size wr w6 := ⟨hb6.os, hb6.tape, hb6.output, hb6.size, hb6.block⟩
          have h1 := AS1.out.below hb6'
          exact ⟨h1, hB.out.trans (hb6'.mono (by have := AS1.out.bx.lt; omega)), h1.bx.cell 7, h1.bx.cell 8, h1.bx.frozen 7⟩
        obtain ⟨nr, hnr⟩ : ∃ nr, (bars.getD a []).length = nr := ⟨_, rfl⟩
        rw [hnr] at c55 hcu Au
        have hnr : Aside ((bars.getD a []).length = nr) := hnr
        by_cases hbud : lk < bud
        · have hgt : ¬ (lk : Int) + 1 > (bud : Int) := by omega
          have AL : Aside (lk + 1 ≤ bud) := hbud
          have hTb : Aside (T = (goB P S L bud rest (putB bars a (kn : Int)) ⟨fd, best, lk + 1⟩).bind (tryAll (goB P S L bud rest) (fun r => fitB P S L r (kn : Int)) bud bars (kn : Int) (List.range' (a + 1) (bars.length - (a + 1))))) := by
            show T = _
            rw [hT2.out, hf.out, blt_true hbud]; rfl
          have hrow : Aside (bars.getD a [] ≠ [] ∧ (bars.getD a []).length ≤ i) := ⟨(AB.out.row hlt).1, (AB.out.row hlt).2.1⟩
          clear hbud hT2
          go_wp2
          go_still_tail 20, (by kernel_rfl)
          change wpList _ _ _ _ _ wr.drew
          go_wp2_with (go_at_call 55; refine c55.mono ?_; rintro e w6 ⟨rfl, hb6⟩; obtain ⟨hS6, hB6, e7, e8, f7⟩ := hW6.out w6 hb6)
          go_quiet (fail)
          generalize hw7 : (w6.setCell ⟨b, 7, none⟩ (.int .i64 ((lk : Int) + 1))).drewN nq = w7
          have S7 : Sw w7 b L S (.slice (some ⟨gP, oP, none⟩) P.length cP) (.slice (some ⟨gO, oO, none⟩) O.length cO) bud bars ⟨fd, best, lk + 1⟩ (.slice (some ⟨gB, 0, none⟩) bars.length cB1) vs1 (.slice ab best.length cb) bs1 := by
            rw [← hw7]; exact hS6.look.1.heap rfl
          have B7 : Aside (Below b w w7) := by
            rw [← hw7]; exact below_same (hB6.trans hS6.look.2) _ rfl
          have g4 : w7.cell? ⟨b, 4, none⟩ = some (.slice (some ⟨gB, 0, none⟩) bars.length cB1) := S7.bx.cell 4
          have gcu := S7.nt.cell Au.out
          have hrow7 : w7.ownsRow (b + 1) 2 1 (.slice (some ⟨gu, 0, none⟩) nr cu) nr ((bars.getD a []).map (Value.int .i64)) := by
            have := (S7.nt.row a _ Au.out).1; rw [hnr.out] at this; exact this
          have hgu := S7.nt.lt (g := gu) (.inr ⟨_, List.mem_of_getElem? Au.out, rfl⟩)
          have hgB := S7.nt.lt (g := gB) (.inl rfl)
          have hgne : gu ≠ gB := fun e => S7.nt.apart _ (List.mem_of_getElem? Au.out) gu rfl (by rw [e]; rfl)
          have A7 : Aside (Sw w7 b L S (.slice (some ⟨gP, oP, none⟩) P.length cP) (.slice (some ⟨gO, oO, none⟩) O.length cO) bud bars ⟨fd, best, lk + 1⟩ (.slice (some ⟨gB, 0, none⟩) bars.length cB1) vs1 (.slice ab best.length cb) bs1) := S7
          clear hw7 hS6 hB6 e7 e8 f7 hb6 S7 c55 d0 d1 d2 d4 hcu hW6
          have hb7 : b < w7.heap.size := A7.out.bx.lt
          have hgu2 := hgu.2
          have hgB2 := hgB.2
          have hbgu : b ≠ gu := by omega
          have hbgB : b ≠ gB := by omega
          obtain ⟨i2, hi2', hz0, hz1, hz2⟩ := info_parts Try.info2
          obtain ⟨xs, hxs⟩ : ∃ xs, (bars.getD a []).map (Value.int .i64) = xs := ⟨_, rfl⟩
          rw [hxs] at hrow7
          have hxs : Aside ((bars.getD a []).map (Value.int .i64) = xs) := hxs
          have hownA : Aside (∀ wx : World, wx.heap = (w7.alloc (.cells #[.int .i64 (kn : Int)] 2)).heap → wx.ownsRow (b + 1) 2 1 (.slice (some ⟨gu, 0, none⟩) nr cu) nr xs) := fun wx hx => ownsRow_keep hrow7 fun q hq => by
            cases hq
            rw [hx]
            exact Below.heap_alloc w7 _ gu hgu2
          have hnewA : Aside (∀ wx : World, wx.heap = (w7.alloc (.cells #[.int .i64 (kn : Int)] 2)).heap → wx.heap[w7.heap.size]? = some (.cells #[.int .i64 (kn : Int)] 2)) := fun wx hx => by rw [hx]; exact alloc_at w7 _
          have hbaseA : Aside (∀ wx : World, wx.heap = (w7.alloc (.cells #[.int .i64 (kn : Int)] 2)).heap → b + 1 ≤ wx.heap.size) := fun wx hx => by
            rw [hx]; have := alloc_size w7 (.cells #[.int .i64 (kn : Int)] 2); omega
          have hcell8 : Aside (∀ wx w8 : World, wx.heap = (w7.alloc (.cells #[.int .i64 (kn : Int)] 2)).heap → wx.grownBy w8 (some gu) → w8.cell? ⟨b, 4, none⟩ = some (.slice (some ⟨gB, 0, none⟩) bars.length cB1) ∧ w8.cell? ⟨gB, a, none⟩ = some (.slice (some ⟨gu, 0, none⟩) nr cu) ∧ w8.frozen? ⟨gB, a, none⟩ = false) := fun wx w8 hx hg => by
            have hs := alloc_size w7 (.cells #[.int .i64 (kn : Int)] 2)
            have hk : ∀ q, q < w7.heap.size → q ≠ gu → w8.heap[q]? = w7.heap[q]? := fun q hq hne => by
              rw [hg.block q (by rw [hx]; omega) (by intro e; cases e; exact hne rfl), hx]
              exact Below.heap_alloc w7 _ q hq
            exact ⟨(World.cell?_of_block (hk b hb7 hbgu)).trans g4, (World.cell?_of_block (hk gB hgB2 (Ne.symm hgne))).trans gcu.1, (World.frozen?_of_block (hk gB hgB2 (Ne.symm hgne))).trans gcu.2⟩
          have hnr14 : nr ≤ 14 := by have := hrow.out.2; rw [hnr.out] at this; omega
          have h63 : nr + 1 ≤ maxLen := by unfold maxLen; omega
          have hby : (nr + 1) * 8 ≤ 140737488355328 := by omega
          clear hrow7
          go_wp2
          apply wp_frame (F := fun g cap w8 => w8.ownsRow (b + 1) 2 1 (.slice (some ⟨g, 0, none⟩) (nr + 1) cap) (nr + 1) (xs ++ [.int .i64 (kn : Int)]) ∧ (w7.alloc (.cells #[.int .i64 (kn : Int)] 2)).grownBy w8 (some gu) ∧ (some gu = some g ∨ g = w7.heap.size + 1)) (G := fun g cap w8 => w8.setCell ⟨gB, a, none⟩ (.slice (some ⟨g, 0, none⟩) (nr + 1) cap))
          case h2 =>
            go_region_law (refine step_append_lies _ (by rfl) (.tmp 126) (.tmp 128) 28 (by rfl) (b + 1) 2 i2 (.int .i64 0) 1 8 Try.underlying28 hi2' hz0 hz1 hz2 rfl (by decide) (.slice (some ⟨gu, 0, none⟩) nr cu) nr xs (by rfl) (hownA.out _ (by rfl)) ⟨w7.heap.size, 0, none⟩ 1 1 [.int .i64 (kn : Int)] (by rfl) rfl (World.news_of_block (hnewA.out _ (by rfl))) (fun u hu => by rw [List.mem_singleton] at hu; subst hu; rfl) (by decide) h63 hby (hbaseA.out _ (by rfl)) _ rfl ?_; intro g8 cap8 w8 hown8 hgrow8 hat8 hlt8; have hq8 := hcell8.out _ _ (by rfl) hgrow8)
            all_goals exact ⟨g8, cap8, w8, ⟨hown8, ⟨hgrow8.os, hgrow8.tape, hgrow8.output, hgrow8.size, hgrow8.block⟩, hat8.imp id fun e => by rw [e]; exact alloc_size w7 _⟩, rfl, rfl⟩
          case h1 =>
            rintro g8 cap8 w8 ⟨hown8, hgrow8, hat8⟩
            have C := Sw.put (k := (kn : Int)) (g := g8) (cap := cap8) A7.out Au.out (by rw [hnr.out, hxs.out]; exact hown8) hgrow8 hat8
            rw [hnr.out] at C
            have hnew : vs1.set a (.slice (some ⟨g8, 0, none⟩) (nr + 1) cap8) = vs1.set a (.slice (some ⟨g8, 0, none⟩) (nr + 1) cap8) := rfl
            generalize w8.setCell ⟨gB, a, none⟩ (.slice (some ⟨g8, 0, none⟩) (nr + 1) cap8) = w9 at *
            have B9 : Aside (Below b w w9) := B7.out.trans C.2
            have c38 := IH.out (putB bars a (kn : Int)) ⟨fd, best, lk + 1⟩ w9 _ _ _ _ (AB.out.put hlt hkr) AL.out B9.out C.1
            clear C hnew hown8 hgrow8 hat8 g4 gcu hownA hnewA hbaseA hcell8
            cases hY : goB P S L bud rest (putB bars a (kn : Int)) ⟨fd, best, lk + 1⟩ with
            | none =>
              rw [hY] at c38
              have hRe : Aside (R = none) := by
                have h1 := AR.out
                rw [show T = none by rw [hTb.out, hY]; rfl] at h1
                exact h1.symm
              clear hY
              go_wp2_with (go_at_call 38; refine Calls.mono c38 ?_; rintro e w10 ⟨rfl, hb10⟩)
              go_ret
              rw [hRe.out]
              exact ⟨rfl, B9.out.trans hb10⟩
            | some st2 =>
              rw [hY] at c38
              have hTc : Aside (T = tryAll (goB P S L bud rest) (fun r => fitB P S L r (kn : Int)) bud bars (kn : Int) (List.range' (a + 1) (bars.length - (a + 1))) st2) := by
                show T = _
                rw [hTb.out, hY]; rfl
              clear hY hTb
              go_wp2_with (go_at_call 38; refine Calls.mono c38 ?_; rintro e w10 ⟨rfl, hb10, hlk2, vB2, vs2, vb2, bs2, hS10⟩)
              have hl2 : (putB bars a (kn : Int)).length = bars.length := putB_len bars a (kn : Int)
              obtain ⟨gB2, cB2, e⟩ := hS10.nt.form (by intro h; rw [h] at hl2; simp at hl2; omega)
              rw [hl2] at e
              subst e
              obtain ⟨u2, hu2⟩ := hS10.nt.at (i := a) (by rw [hl2]; exact hlt)
              obtain ⟨hrow2, gu2, cu2, e2⟩ := hS10.nt.row a u2 hu2
              have hgd : (putB bars a (kn : Int)).getD a [] = bars.getD a [] ++ [(kn : Int)] := by unfold putB; rw [set_getD a hlt, if_pos rfl]
              have hgl : ((putB bars a (kn : Int)).getD a []).length = nr + 1 := by rw [hgd, List.length_append, hnr.out]; rfl
              rw [hgl] at e2 hrow2
              subst e2
              have hcap : nr + 1 ≤ cu2 := by
                rcases hrow2.2 with ⟨q, _⟩ | ⟨_, _, _, q, _, _, h1, _⟩
                · cases q
                · cases q; exact h1
              have k4 : w10.cell? ⟨b, 4, none⟩ = some (.slice (some ⟨gB2, 0, none⟩) bars.length cB2) := hS10.bx.cell 4
              have kcu := hS10.nt.cell hu2
              have kf := kcu.2
              have kc := kcu.1
              have C := Sw.cut (r := bars.getD a []) (k := (kn : Int)) (g := gu2) (c := cu2) hS10 hgd (by rw [hnr.out]; exact hu2)
              rw [hnr.out] at C
              have hback : (putB bars a (kn : Int)).set a (bars.getD a []) = bars := by
                unfold putB
                rw [List.set_set, List.getD_eq_getElem?_getD, List.getElem?_eq_getElem hlt]
                simp
              rw [hback] at C
              have C : Aside _ := C
              have B10 : Aside (Below b w w10) := B9.out.trans hb10
              have hsl : (0 : Int) ≤ (nr : Int) ∧ (nr : Int) ≤ (cu2 : Int) := by omega
              have hw0 : IntKind.wrap .i64 (nr : Int) = nr := IntWalk.i64_in _ (by omega)
              have hw1 : IntKind.wrap .i64 ((nr : Int) + 1 - 1) = nr := by rw [show (nr : Int) + 1 - 1 = nr by omega]; exact hw0
              have hs1 : ¬ (cu2 : Int) < (nr : Int) := by omega
              have hs2 : ¬ (nr : Int) < 0 := by omega
              clear hS10 hu2 hrow2 hgd hgl hback kcu c38 hb10 hl2
              go_still_tail 22, (by kernel_rfl)
              change wpList _ _ _ _ _ w10.drew
              go_wp2
              go_roundg (bars.length - (a + 1))
              case measure => omega
              case rel =>
                exact ⟨a + 1, st2, _, _, _, _, by go_num, by omega, by omega, hlk2, C.out.1.heap rfl, hTc.out, below_same (B10.out.trans C.out.2) 1 rfl⟩
        · have hgt : (lk : Int) + 1 > (bud : Int) := by omega
          have hRe : Aside (R = none) := by
            have h1 := AR.out
            rw [show T = none by rw [hT2.out, hf.out, blt_false (by omega)]; rfl] at h1
            exact h1.symm
          clear hbud
          go_wp2
          go_still_tail 20, (by kernel_rfl)
          change wpList _ _ _ _ _ wr.drew
          go_wp2_with (go_at_call 55; refine c55.mono ?_; rintro e w6 ⟨rfl, hb6⟩; obtain ⟨hS6, hB6, e7, e8, f7⟩ := hW6.out w6 hb6)
          go_quiet (fail)
          go_wp2
          go_ret
          rw [hRe.out]
          exact ⟨rfl, below_same ((hB6).setCell (Nat.le_refl b) _) _ rfl⟩
    · obtain rfl : a = bars.length := by omega
      have hltz : ¬ ((bars.length : Nat) : Int) < ((bars.length : Nat) : Int) := by omega
      have hTe : T = some ⟨fd, best, lk⟩ := by rw [hTX.out, Nat.sub_self]; rfl
      have hRe : R = newB (goB P S L bud rest) bud bars (kn : Int) ⟨fd, best, lk⟩ := by rw [← AR.out, hTe]; rfl
      have AN : Aside (R = newB (goB P S L bud rest) bud bars (kn : Int) ⟨fd, best, lk⟩) := hRe
      have AS1 : Aside (Sw wr b L S (.slice (some ⟨gP, oP, none⟩) P.length cP) (.slice (some ⟨gO, oO, none⟩) O.length cO) bud bars ⟨fd, best, lk⟩ (.slice aB1 bars.length cB1) vs1 (.slice ab best.length cb) bs1) := hS
      have d5 : wr.cell? ⟨b, 5, none⟩ = some (.slice ab best.length cb) := hS.bx.cell 5
      have d6 : wr.cell? ⟨b, 6, none⟩ = some (.bool fd) := hS.bx.cell 6
      clear hTe hTX AR hT0 hRe hS AS c3 c4 d0 d1 d2
      have fin : ∀ (Z : Bool), (fd && Nat.ble best.length (bars.length + 1)) = Z → Aside (R = cond Z (some ⟨fd, best, lk⟩) (cond (Nat.blt lk bud) (goB P S L bud rest (bars ++ [[(kn : Int)]]) ⟨fd, best, lk + 1⟩) none)) := fun Z hZ => by
        have h1 : R = cond (fd && Nat.ble best.length (bars.length + 1)) (some ⟨fd, best, lk⟩) (cond (Nat.blt lk bud) (goB P S L bud rest (bars ++ [[(kn : Int)]]) ⟨fd, best, lk + 1⟩) none) := AN.out
        rw [hZ] at h1; exact h1
      by_cases hback : fd = true ∧ best.length ≤ bars.length + 1
      · obtain ⟨rfl, hbl⟩ := hback
        have hge : (bars.length : Int) + 1 ≥ (best.length : Int) := by omega
        have hgd : decide ((bars.length : Int) + 1 ≥ (best.length : Int)) = true := decide_eq_true hge
        have fin := fin true (by rw [Bool.true_and]; exact Nat.ble_eq_true_of_le hbl)
        have hw1 : IntKind.wrap .i64 ((bars.length : Int) + 1) = (bars.length : Int) + 1 := IntWalk.i64_in _ (by omega)
        clear AN
        go_wp2
        go_quiet (fail)
        go_wp2
        go_ret
        rw [fin.out]
        exact ⟨rfl, below_same hB.out _ rfl, hlk, _, _, _, _, AS1.out.heap rfl⟩
      · have fin := fin false (by
          cases fd with
          | false => rfl
          | true =>
            rw [Bool.true_and]
            cases e : Nat.ble best.length (bars.length + 1) with
            | false => rfl
            | true => exact absurd ⟨rfl, Nat.le_of_ble_eq_true e⟩ hback)
        have hcase : fd = false ∨ (fd = true ∧ decide ((bars.length : Int) + 1 ≥ (best.length : Int)) = false) := by
          cases fd with
          | false => exact .inl rfl
          | true => exact .inr ⟨rfl, decide_eq_false fun h => hback ⟨rfl, by omega⟩⟩
        have hw1 : IntKind.wrap .i64 ((bars.length : Int) + 1) = (bars.length : Int) + 1 := IntWalk.i64_in _ (by omega)
        have d7 : wr.cell? ⟨b, 7, none⟩ = some (.int .i64 (lk : Int)) := AS1.out.bx.cell 7
        have d8 : wr.cell? ⟨b, 8, none⟩ = some (.int .i64 (bud : Int)) := AS1.out.bx.cell 8
        have f7 := AS1.out.bx.frozen 7
        clear hback AN
        have ALk2 : Aside (lk ≤ 20000) := by have : lk ≤ bud := hlk; show lk ≤ 20000; omega
        have hW1 : Aside (∀ n, Sw (wr.drewN n) b L S (.slice (some ⟨gP, oP, none⟩) P.length cP) (.slice (some ⟨gO, oO, none⟩) O.length cO) bud bars ⟨fd, best, lk⟩ (.slice aB1 bars.length cB1) vs1 (.slice ab best.length cb) bs1 ∧ Below b w (wr.drewN n)) := fun n => ⟨AS1.out.heap rfl, below_same hB.out _ rfl⟩
        clear d5 d6 d7 d8 f7
        have d4 := AS1.out.bx.cell 4
        have d5 : wr.cell? ⟨b, 5, none⟩ = some (.slice ab best.length cb) := AS1.out.bx.cell 5
        have d6 : wr.cell? ⟨b, 6, none⟩ = some (.bool fd) := AS1.out.bx.cell 6
        have d4 : wr.cell? ⟨b, 4, none⟩ = some (.slice aB1 bars.length cB1) := d4
        rcases hcase with hfd | ⟨hfd, hgd⟩
        all_goals
          rw [hfd] at d6
          clear hfd
          go_wp2
          go_quiet (fail)
          generalize hw1 : wr.drewN nq = w1
          have S1 := (hW1.out nq).1
          have B1 := (hW1.out nq).2
          rw [hw1] at S1 B1
          have B1 : Aside (Below b w w1) := B1
          have c7 : w1.cell? ⟨b, 7, none⟩ = some (.int .i64 (lk : Int)) := S1.bx.cell 7
          have c8 : w1.cell? ⟨b, 8, none⟩ = some (.int .i64 (bud : Int)) := S1.bx.cell 8
          have f7 := S1.bx.frozen 7
          have S1 : Aside (Sw w1 b L S (.slice (some ⟨gP, oP, none⟩) P.length cP) (.slice (some ⟨gO, oO, none⟩) O.length cO) bud bars ⟨fd, best, lk⟩ (.slice aB1 bars.length cB1) vs1 (.slice ab best.length cb) bs1) := S1
          clear hw1 d4 d5 d6 hW1
          have hlk20 : (lk : Int) ≤ 20000 := by have := ALk2.out; omega
          by_cases hbud : lk < bud
          · have hgt : ¬ (lk : Int) + 1 > (bud : Int) := by omega
            have AL : Aside (lk + 1 ≤ bud) := hbud
            have hRe : Aside (R = goB P S L bud rest (bars ++ [[(kn : Int)]]) ⟨fd, best, lk + 1⟩) := by
              have h1 := fin.out
              rw [cond_false, blt_true hbud, cond_true] at h1
              exact h1
            clear hbud fin
            go_wp2
            go_quiet (fail)
            generalize hw7 : (w1.setCell ⟨b, 7, none⟩ (.int .i64 ((lk : Int) + 1))).drewN nq = w7
            have S7 : Sw w7 b L S (.slice (some ⟨gP, oP, none⟩) P.length cP) (.slice (some ⟨gO, oO, none⟩) O.length cO) bud bars ⟨fd, best, lk + 1⟩ (.slice aB1 bars.length cB1) vs1 (.slice ab best.length cb) bs1 := by
              rw [← hw7]; exact S1.out.look.1.heap rfl
            have B7 : Aside (Below b w w7) := by
              rw [← hw7]; exact below_same (B1.out.trans S1.out.look.2) _ rfl
            have g4 : w7.cell? ⟨b, 4, none⟩ = some (.slice aB1 bars.length cB1) := S7.bx.cell 4
            have hb7 : b < w7.heap.size := S7.bx.lt
            have A7 : Aside (Sw w7 b L S (.slice (some ⟨gP, oP, none⟩) P.length cP) (.slice (some ⟨gO, oO, none⟩) O.length cO) bud bars ⟨fd, best, lk + 1⟩ (.slice aB1 bars.length cB1) vs1 (.slice ab best.length cb) bs1) := S7
            clear hw7 S7 c7 c8 f7
            have hownA : ∀ (o1 o2 : Obj), ((w7.alloc o1).alloc o2).ownsRow (b + 1) 28 1 (.slice aB1 bars.length cB1) bars.length vs1 := fun o1 o2 => ownsRow_keep A7.out.nt.own fun q hq => by
              have := (A7.out.nt.lt (.inl hq)).2
              rw [Below.heap_alloc _ o2 q (by rw [alloc_size]; omega), Below.heap_alloc w7 o1 q this]
            have hnewA : ∀ (o1 o2 : Obj), ((w7.alloc o1).alloc o2).heap[w7.heap.size + 1]? = some o2 := fun o1 o2 => by
              have := alloc_at (w7.alloc o1) o2
              rwa [alloc_size] at this
            have hbaseA : ∀ (o1 o2 : Obj), b + 1 ≤ ((w7.alloc o1).alloc o2).heap.size := fun o1 o2 => by
              rw [alloc_size, alloc_size]; omega
            have hsz2 : ∀ (o1 o2 : Obj), ((w7.alloc o1).alloc o2).heap.size = w7.heap.size + 2 := fun o1 o2 => by
              rw [alloc_size, alloc_size]
            have hcell8 : ∀ (o1 o2 : Obj) (w8 : World), ((w7.alloc o1).alloc o2).grownBy w8 (Value.slice aB1 bars.length cB1).ownBlock → w8.cell? ⟨b, 4, none⟩ = some (.slice aB1 bars.length cB1) ∧ w8.frozen? ⟨b, 4, none⟩ = false := fun o1 o2 w8 hg => by
              have hk : w8.heap[b]? = w7.heap[b]? := by
                rw [hg.block b (by rw [hsz2]; omega) fun e => by have := (A7.out.nt.lt (.inl e.symm)).1; omega, Below.heap_alloc _ o2 b (by rw [alloc_size]; omega), Below.heap_alloc w7 o1 b hb7]
              exact ⟨(World.cell?_of_block hk).trans g4, (World.frozen?_of_block hk).trans (A7.out.bx.frozen 4)⟩
            obtain ⟨i0, hi28, hz0, hz1, hz2⟩ := info_parts Try.info28
            have h63 : bars.length + 1 ≤ maxLen := by unfold maxLen; omega
            have hby : (bars.length + 1) * 24 ≤ 140737488355328 := by omega
            cases hY : goB P S L bud rest (bars ++ [[(kn : Int)]]) ⟨fd, best, lk + 1⟩ with
            | none =>
              rw [hY] at hRe
              have c38 : Aside (∀ w9 vB vs, Below b w w9 → Sw w9 b L S (.slice (some ⟨gP, oP, none⟩) P.length cP) (.slice (some ⟨gO, oO, none⟩) O.length cO) bud (bars ++ [[(kn : Int)]]) ⟨fd, best, lk + 1⟩ vB vs (.slice ab best.length cb) bs1 → Calls Try.prog 38 #[.pointer (some ⟨b, 0, none⟩), .int .i64 ((i + 1 : Nat) : Int)] w9 fun e w' => LPost w9 b L S (.slice (some ⟨gP, oP, none⟩) P.length cP) (.slice (some ⟨gO, oO, none⟩) O.length cO) bud (bars ++ [[(kn : Int)]]) e w' none) := fun w9 vB vs hb hs => by
                have := IH.out (bars ++ [[(kn : Int)]]) ⟨fd, best, lk + 1⟩ w9 vB vs _ _ (AB.out.new hkr) AL.out hb hs
                rw [hY] at this; exact this
              clear hY
              go_wp2_with (first
                | (at_builtin; refine wpList_append_lies _ rfl (.tmp 198) (.tmp 201) 29 rfl (b + 1) 28 i0 (.slice none 0 0) 1 24 Try.underlying29 hi28 hz0 hz1 hz2 rfl (by decide) _ _ _ rfl (hownA _ _) ⟨w7.heap.size + 1, 0, none⟩ 1 1 [.slice (some ⟨w7.heap.size, 0, none⟩) 1 1] rfl rfl (World.news_of_block (hnewA _ _)) (fun u hu => by rw [List.mem_singleton] at hu; subst hu; rfl) (by decide) h63 hby (hbaseA _ _) _ rfl ?_; intro g8 cap8 w8 hown8 hgrow8 hat8 hlt8; have hq8 := hcell8 _ _ _ hgrow8)
                | (go_at_call 38; have C := Sw.snoc A7.out rfl rfl hown8 hgrow8 (hat8.imp id fun e => by rw [e]; exact hsz2 _ _); have B9 := B7.out.trans C.2; refine Calls.mono (c38.out _ _ _ B9 C.1) ?_; rintro e w10 ⟨rfl, hb10⟩))
              go_ret
              rw [hRe.out]
              exact ⟨rfl, B9.trans hb10⟩
            | some st2 =>
              rw [hY] at hRe
              have c38 : Aside (∀ w9 vB vs, Below b w w9 → Sw w9 b L S (.slice (some ⟨gP, oP, none⟩) P.length cP) (.slice (some ⟨gO, oO, none⟩) O.length cO) bud (bars ++ [[(kn : Int)]]) ⟨fd, best, lk + 1⟩ vB vs (.slice ab best.length cb) bs1 → Calls Try.prog 38 #[.pointer (some ⟨b, 0, none⟩), .int .i64 ((i + 1 : Nat) : Int)] w9 fun e w' => LPost w9 b L S (.slice (some ⟨gP, oP, none⟩) P.length cP) (.slice (some ⟨gO, oO, none⟩) O.length cO) bud (bars ++ [[(kn : Int)]]) e w' (some st2)) := fun w9 vB vs hb hs => by
                have := IH.out (bars ++ [[(kn : Int)]]) ⟨fd, best, lk + 1⟩ w9 vB vs _ _ (AB.out.new hkr) AL.out hb hs
                rw [hY] at this; exact this
              clear hY
              go_wp2_with (first
                | (at_builtin; refine wpList_append_lies _ rfl (.tmp 198) (.tmp 201) 29 rfl (b + 1) 28 i0 (.slice none 0 0) 1 24 Try.underlying29 hi28 hz0 hz1 hz2 rfl (by decide) _ _ _ rfl (hownA _ _) ⟨w7.heap.size + 1, 0, none⟩ 1 1 [.slice (some ⟨w7.heap.size, 0, none⟩) 1 1] rfl rfl (World.news_of_block (hnewA _ _)) (fun u hu => by rw [List.mem_singleton] at hu; subst hu; rfl) (by decide) h63 hby (hbaseA _ _) _ rfl ?_; intro g8 cap8 w8 hown8 hgrow8 hat8 hlt8; have hq8 := hcell8 _ _ _ hgrow8)
                | (go_at_call 38; have C := Sw.snoc A7.out rfl rfl hown8 hgrow8 (hat8.imp id fun e => by rw [e]; exact hsz2 _ _); have B9 := B7.out.trans C.2; refine Calls.mono (c38.out _ _ _ B9 C.1) ?_; rintro e w10 ⟨rfl, hb10, hlk2, vB2, vs2, vb2, bs2, hS10⟩))
              have hl2 : (bars ++ [[(kn : Int)]]).length = bars.length + 1 := by rw [List.length_append]; rfl
              obtain ⟨gB2, cB2, e⟩ := hS10.nt.form (by intro h; rw [h] at hl2; simp at hl2)
              rw [hl2] at e
              subst e
              have hcap : bars.length + 1 ≤ cB2 := by
                have hown10 := hS10.nt.own
                rw [hl2] at hown10
                rcases hown10.2 with ⟨q, _⟩ | ⟨_, _, _, q, _, _, h1, _⟩
                · cases q
                · cases q; exact h1
              have k4 : w10.cell? ⟨b, 4, none⟩ = some (.slice (some ⟨gB2, 0, none⟩) (bars.length + 1) cB2) := hS10.bx.cell 4
              have k4f := hS10.bx.frozen 4
              have C3 : Aside _ := hS10.pop
              have B10 : Aside (Below b w w10) := B9.trans hb10
              have hsl : (0 : Int) ≤ (bars.length : Int) ∧ (bars.length : Int) ≤ (cB2 : Int) := by omega
              have hw0 : IntKind.wrap .i64 (bars.length : Int) = bars.length := IntWalk.i64_in _ (by omega)
              have hw2 : IntKind.wrap .i64 ((bars.length : Int) + 1 - 1) = bars.length := by rw [show (bars.length : Int) + 1 - 1 = bars.length by omega]; exact hw0
              have hs1 : ¬ (cB2 : Int) < (bars.length : Int) := by omega
              have hs2 : ¬ (bars.length : Int) < 0 := by omega
              clear hS10 hl2 C B9 hb10 hq8 hown8 hgrow8 hat8 hlt8 c38 g4 hownA hnewA hbaseA hsz2 hcell8
              go_still_tail 12, (by kernel_rfl)
              change wpList _ _ _ _ _ w10.drew
              go_wp2
              go_ret
              rw [hRe.out]
              exact ⟨rfl, below_same (B10.out.trans C3.out.2) 1 rfl, hlk2, _, _, _, _, C3.out.1.heap rfl⟩
          · have hgt : (lk : Int) + 1 > (bud : Int) := by omega
            have hRe : Aside (R = none) := by
              have h1 := fin.out
              rw [cond_false, blt_false (by omega), cond_false] at h1
              exact h1
            clear hbud fin
            go_wp2
            go_quiet (fail)
            go_wp2
            go_ret
            rw [hRe.out]
            exact ⟨rfl, below_same ((B1.out).setCell (Nat.le_refl b) _) _ rfl⟩
end Go.RR
