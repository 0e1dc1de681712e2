/- Calls that write into a slice of the caller's own. No condition. -/
import Derived.Test.YtbmaolhjplapoaaGreatDoorRv
import Derived.Test.YtbmaolhjplapoaaGreatDoorR2
set_option linter.unusedVariables false
set_option linter.unusedSimpArgs false
namespace Go.RR
open Go Go.RowKit
theorem compat_rt (t : RT) (x y : t.den) (h : t.flat = true) : compat (t.toA x) (t.toA y) = true := by
 cases t <;> first | (simp [RT.flat] at h; done) | simp [RT.toA, compat, keq_refl]
theorem compat_fs : ∀ (ts : List RT) (x y : dens ts), ts.all RT.flat = true → compatL (fieldsA ts x) (fieldsA ts y) = true
 | [], _, _, _ => rfl
 | [t], x, y, h => by
  simp only [List.all_cons, Bool.and_eq_true] at h
  show (compat (t.toA x) (t.toA y) && true) = true
  rw [compat_rt t x y h.1]; rfl
 | t :: u :: r, x, y, h => by
  rw [List.all_cons, Bool.and_eq_true] at h
  show (compat (t.toA x.1) (t.toA y.1) && compatL (fieldsA (u :: r) x.2) (fieldsA (u :: r) y.2)) = true
  rw [compat_rt t x.1 y.1 h.1, compat_fs (u :: r) x.2 y.2 h.2]; rfl
theorem compat_el {I : Inn} {e : ET} (hf : e.flat = true) (x y : e.den) {cs : List Value} (hx : ElC I e x cs) : compat (e.toA x) (e.toA y) = true := by
 cases e with
 | one t => exact compat_rt t x y (by cases t <;> first | rfl | cases hf)
 | st ts =>
  simp only [ET.toA, compat]
  exact compat_fs ts x y hx.1
theorem off_rows {I : Inn} {e : ET} {l l' : List e.den} {xs : List Value} (hf : e.flat = true) (hr : RowsC I e l xs) (hl : l'.length = l.length) : ∀ q, offC (.arr e l') q = offC (.arr e l) q
 | [] => rfl
 | i :: p => by
  simp only [offC, hl]
  by_cases hi : i < l.length
  ·rw [if_pos hi, if_pos hi]
   obtain ⟨a, c, b, _, _, hc, _⟩ := hr.get i hi
   rw [compat_off p _ _ (compat_el hf (l.getD i e.dflt) (l'.getD i e.dflt) hc)]
  ·rw [if_neg hi, if_neg hi]
theorem OwnV.len {w w' : World} {v : Value} {e n n' : Nat} {xs xs' : List Value} (h : OwnV w v e n xs) (h' : OwnV w' v e n' xs') : n' = n := by
 rcases h with ⟨rfl, ao, rfl⟩ | ⟨g, cap, cur, ty, rfl, _⟩
 ·rcases h' with ⟨rfl, _⟩ | ⟨g, cap, cur, ty, e1, _⟩
  ·rfl
  ·simp only [Value.slice.injEq] at e1; omega
 ·rcases h' with ⟨rfl, ao, e1⟩ | ⟨g', cap', cur', ty', e1, _⟩
  ·simp only [Value.slice.injEq] at e1; omega
  ·simp only [Value.slice.injEq] at e1; omega
section
variable {R : Type} {W : SW} {X : Ctx} {s : AS} {o : Oper} {K : Eff → Option R} {r : R}
theorem argsV_of_vals {σ : Nat → Value} {H : HF} {w : World} : ∀ {rest : List A}, rest.all isV = true → WfL H rest → ArgsV w rest (rest.map (val σ))
 | [], _, _ => rfl
 | a :: rest, h, hw => by
  simp only [List.all_cons, Bool.and_eq_true] at h
  refine ⟨_, _, rfl, ?_, argsV_of_vals h.2 hw.2⟩
  cases a <;> first | (simp [isV] at h; done) | skip
  exact ⟨rfl, hw.1⟩
theorem aCallU_ok (hX : CtxW W X) (hd : ∀ i, o.dst = some i → i < W.N) {f : Operand} {ts : Array TypeId} {xs : Array Operand} (ho : o.op = .call { callee := .value f, args := xs, argTypes := ts })
  {g : Nat} {as : List A} (hf : opA X.T s 0 f = some (.clo g [])) (has : opsA X.T s ts.toList xs.toList = some as) {u : UCon} (hu : X.Ψ g = some u) (h : aCallU s o u as K = some r) : ∃ e, K e = some r ∧ OpOK W o s e := by
 unfold aCallU at h
 split at h
 ·rename_i b rest
  split at h
  ·rename_i e l hb
   obtain ⟨hc, h⟩ := cond_some h
   simp only [Bool.and_eq_true] at hc
   obtain ⟨hfl, hrest⟩ := hc
   generalize hz : u e l rest = z at h
   obtain ⟨α, c, res, new⟩ := z
   dsimp only at h
   cases c with
   | none => cases h
   | some rv =>
    dsimp only at h
    obtain ⟨hent, hsnd⟩ := hX.up g u hu
    have hs' := hsnd e l rest
    rw [hz] at hs'
    refine ⟨_, h, ⟨Nat.le_refl _, fun b' x hm => ?_⟩, ?_⟩
    ·simp only [List.mem_singleton, Prod.mk.injEq] at hm
     rw [hm.1]; exact .inr (blk_isSome hb)
    intro S H σ a w hs hfr hsim next Q hnx
    have hbH := hs.blk hb
    obtain ⟨h1, h2⟩ := opA_val hs hsim hf
    obtain ⟨h3, h4⟩ := opsA_vals hs hsim has
    obtain ⟨ys, hr, hown⟩ := hsim.blk b _ hbH
    have hownV : OwnV w (σ b) e.sz l.length ys := by
     rcases hown with q | ⟨g', cap, cur, ty, q1, _, q3, q4, q5⟩
     ·exact .inl q
     ·exact .inr ⟨g', cap, cur, ty, q1, q3, q4, q5⟩
    have hargs := argsV_of_vals (σ := σ) (w := w) hrest h4.2
    have hrun : (execOp a.eval o).run W.P w = .ok (.enter g ((σ b :: rest.map (val σ)).toArray)) w := by
     have h6 : xs.map a.eval = (σ b :: rest.map (val σ)).toArray := by
      apply Array.toList_inj.1
      rw [Array.toList_map, h3]; rfl
     have h7 : a.eval f = .func (.func g) #[] #[] := by rw [h1]; rfl
     have h8 := hent (#[] ++ (σ b :: rest.map (val σ)).toArray ++ #[]) w
     simp only [execOp, ho, Go.resolve, h6, h7, Deferred.ofValue, invoke, Sem.run_bind, Sem.run_pure, Result.andThen_ok, h8]
     congr 2
     simp
    unfold Oper.wp
    rw [hrun]
    show Calls W.P g _ w _
    refine (hs' rv hfl hrest rfl w (σ b) ys _ hsim.jj (fun k hk ht => W.hT k (hsim.owned_lt ⟨b, _, hbH, hk⟩).2 ht) hownV (RowsC_flat hfl hr) hargs).mono fun en w' hpost => ?_
    obtain ⟨zv, rfl, hres, xs', hr', hown', hbut⟩ := hpost
    dsimp only at hres hr' hown'
    show next (a.put o.dst _) w'
    have hlen := hownV.len hown'
    have hsh : Shape H (setF H b (some (some ⟨true, .arr e (new rv)⟩))) := fun b' hb' => by
     by_cases hbb : b' = b
     ·subst hbb
      rw [setF_same]
      refine ⟨rfl, fun blk' q => ⟨_, hbH, fun q' d hd' => ?_⟩⟩
      cases q
      rw [off_rows hfl hr hlen]; exact hd'
     ·rw [setF_other _ _ hbb]
      exact ⟨hb', fun blk' q => ⟨blk', q, fun _ _ hd => hd⟩⟩
    have hown2 : OwnArr W w' (σ b) e.sz (new rv).length xs' := by
     rcases hown' with q | ⟨g', cap, cur, ty, q1, q3, q4, q5⟩
     ·exact .inl q
     ·refine .inr ⟨g', cap, cur, ty, q1, ?_, q3, q4, q5⟩
      exact (hsim.own_lt hbH (g := g') (by rw [q1]; simp only [ownG]; rw [if_neg (by omega)])).2
    have hsim' : Sim W S (setF H b (some (some ⟨true, .arr e (new rv)⟩))) σ a w' := by
     refine hsim.upd hbut.os hbut.tape hbut.output hbut.size hsim.one (fun _ _ => rfl) hsh (fun g' => ownG (σ b) = some g') (fun g' hg' hn => hbut.block g' hg' hn) (fun g' hg' => ⟨⟨b, _, hbH, hg'⟩, (hsim.own_lt hbH hg').2⟩) (fun g' _ ho' => ?_) (fun b' blk' hb' => ?_) (fun b1 b2 c1 c2 q1 q2 hn k hk => ?_)
     ·obtain ⟨b', c', q1, q2⟩ := ho'
      by_cases hbb : b' = b
      ·subst hbb; exact ⟨b', _, hbH, q2⟩
      ·rw [setF_other _ _ hbb] at q1
       exact ⟨b', c', q1, q2⟩
     ·by_cases hbb : b' = b
      ·right
       subst hbb
       rw [setF_same] at hb'
       cases hb'
       exact ⟨xs', RowsC_flat hfl hr', hown2⟩
      ·left
       rw [setF_other _ _ hbb] at hb'
       refine ⟨hb', fun ho' g' hg' => ⟨fun hT => ?_, ?_⟩⟩
       ·obtain ⟨own, con⟩ := blk'
        subst ho'
        exact hsim.sep b' b _ _ hb' hbH hbb g' hg' hT
       ·obtain ⟨own, con⟩ := blk'
        subst ho'
        exact (hsim.own_lt hb' hg').1
     ·have old : ∀ b' c', setF H b (some (some ⟨true, .arr e (new rv)⟩)) b' = some (some ⟨true, c'⟩) → ∃ c'', H b' = some (some ⟨true, c''⟩) := by
       intro b' c' q
       by_cases hbb : b' = b
       ·subst hbb; exact ⟨_, hbH⟩
       ·rw [setF_other _ _ hbb] at q; exact ⟨_, q⟩
      obtain ⟨d1, q1'⟩ := old b1 c1 q1
      obtain ⟨d2, q2'⟩ := old b2 c2 q2
      exact hsim.sep b1 b2 d1 d2 q1' q2' hn k hk
    refine hnx σ _ _ ?_
    refine hsim'.put (d := o.dst) (sv := svU (res rv)) hd ?_
    revert hres
    cases res rv with
    | none => intro hres; exact ⟨hres, trivial⟩
    | some x => intro hres; exact ⟨hres.2.trans (zero_val' hres.1 σ), hres.1 _⟩
  ·cases h
 ·cases h
theorem aCall_ok (hX : CtxW W X) (hd : ∀ i, o.dst = some i → i < W.N) {f : Operand} {ts : Array TypeId} {xs : Array Operand} (ho : o.op = .call { callee := .value f, args := xs, argTypes := ts })
  (h : aCall X s o f ts.toList xs.toList K = some r) : ∃ e, K e = some r ∧ OpOK W o s e := by
 unfold aCall at h
 split at h
 ·rename_i g cs as hf has
  split at h
  ·rename_i γ hγ
   split at h
   ·exact aCallH_ok hX hd ho hf has hγ h
   ·cases h
  ·split at h
   ·rename_i u hu
    split at h
    ·exact aCallU_ok hX hd ho hf has hu h
    ·cases h
   ·exact aCallN_ok hX hd ho hf has h
 ·cases h
end
end Go.RR
