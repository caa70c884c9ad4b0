import Derived.Test.YtdnacfnmaieeiaaStPatternsMatchSpec
import Derived.Test.YtdnacfnmaieeiaaPurePatMatch
set_option linter.unusedSimpArgs false
set_option linter.unusedVariables false
namespace Go.Proofs.Ytdnacfnmaieeiaa.Print
open Go.RowKit Go.Proofs.YtdnacfnmaieeiaaW.PrintWords Go.Proofs.YtdnacfnmaieeiaaO.Opn Go.Proofs.YtdnacfnmaieeiaaO.Kit
theorem eqL_comm (a b : List Int) : eqL a b = eqL b a := by
  unfold eqL
  rw [Bool.eq_iff_iff]
  simp only [decide_eq_true_eq]
  exact eq_comm
theorem refmatched_ev (kind : Int) (p t : ByteArray) (hm : mfault kind p t = (0, 0)) : Ev (fun k => posthouseref6_Matched.f k kind p t) (mres kind p t) := by
  obtain ⟨h1, h2⟩ := mfault_zero hm
  obtain ⟨k1, k2, k3, k4⟩ := pfault_zero h1
  rw [chars_len] at k3
  unfold posthouseref6_Matched.f mres
  refine ev_ite' (fun _ => Ev.bind (alikeT_ev p t (by omega)) (ev_now (by rw [eqL_comm]))) (fun c1 => ev_ite' (fun _ => ?_) (fun c2 => ?_))
  · have key : ∀ (n i : Nat), i + n = t.size + 1 → Ev (fun k => posthouseref6_Matched.l0 k p t i) (if i ≤ t.size then hasL (chars p) ((chars t).drop i) else false, ([] : List ByteArray)) := by
      intro n
      induction n with
      | zero =>
        intro i hi
        refine ev_succ ?_
        simp only [posthouseref6_Matched.l0, wid (show -9223372036854775808 ≤ (i : Int) + p.size by omega) (by omega)]
        refine ev_neg (by omega) (ev_now ?_)
        rw [if_neg (by omega)]
      | succ n ih =>
        intro i hi
        refine ev_succ ?_
        simp only [posthouseref6_Matched.l0, wid (show -9223372036854775808 ≤ (i : Int) + p.size by omega) (by omega), wN (show i < 9223372036854775807 by omega)]
        rw [if_pos (by omega)]
        by_cases h : (i : Int) + p.size ≤ t.size
        · refine ev_pos h (ev_pos (by omega) (ev_pos (by omega) ?_))
          refine Ev.bind (alikeT_ev _ p (by rw [ByteArray.size_extract]; omega)) ?_
          rw [chars_extract]
          have e1 : ((i : Int) + (p.size : Int)).toNat = i + p.size := by omega
          have e2 : (i : Int).toNat = i := by omega
          rw [e1, e2]
          have e3 : ((chars t).take (i + p.size)).drop i = ((chars t).drop i).take (chars p).length := by
            rw [List.drop_take, chars_len]
            congr 1
            omega
          rw [e3]
          have hn := ih (i + 1) (by omega)
          rcases hq : (chars t).drop i with _ | ⟨c, r⟩
          · have hi' : t.size ≤ i := by
              have := drop_ge hq
              rwa [chars_len] at this
            rw [if_neg (by omega)] at hn
            show Ev _ (eqL [] (chars p), ([] : List ByteArray))
            rw [List.take_nil]
            by_cases hc : eqL [] (chars p) = true
            · refine ev_pos hc (ev_now (by rw [hc]))
            · refine ev_neg hc (ev_eq hn ?_)
              simp only [Bool.not_eq_true] at hc
              rw [hc]
          · have hi' := drop_lt hq
            rw [chars_len] at hi'
            rw [if_pos (by omega), drop_step hq] at hn
            show Ev _ ((eqL ((c :: r).take (chars p).length) (chars p) || hasL (chars p) r), ([] : List ByteArray))
            by_cases hc : eqL ((c :: r).take (chars p).length) (chars p) = true
            · refine ev_pos hc (ev_now ?_)
              rw [hc]
              rfl
            · refine ev_neg hc (ev_eq hn ?_)
              simp only [Bool.not_eq_true] at hc
              rw [hc]
              simp
        · refine ev_neg h (ev_now ?_)
          rw [hasL_short]
          rw [List.length_drop, chars_len, chars_len]
          omega
    have := key (t.size + 1) 0 (by omega)
    simpa using this
  · obtain ⟨l, hl⟩ := k4 (by omega)
    rw [hl]
    refine Ev.bind (suits_ev t p (by omega) h2 l hl) ?_
    show Ev _ (wres t l)
    by_cases hf : fit l (chars t) = true
    · exact ev_pos hf (Ev.bind (refwild_ev p.size p t l (Nat.le_refl _) k3 h2 hl) (Ev.now _))
    · refine ev_neg hf (ev_now ?_)
      unfold wres
      rw [if_neg hf]
      simp only [Bool.not_eq_true] at hf
      rw [hf]
theorem posthouselaw6_PatternsMatchSpec.pure : posthouselaw6_PatternsMatchSpec.Want := by
  intro kind p t _ _ _
  refine Ev.rounds ?_
  unfold posthouselaw6_PatternsMatchSpec.f
  refine Ev.bind (match_ev kind p t) (Ev.bind (pfault_ev kind p) ?_)
  have hM := matched_ev
  have hj1 : ∀ f : Int × Int, f = mfault kind p t → Ev (fun k => posthouselaw6_PatternsMatchSpec.j1 k kind p t (mall kind p t).1 (mall kind p t).2.1 (mall kind p t).2.2.1 (mall kind p t).2.2.2 f.1 f.2) true := by
    intro f hf
    refine ev_succ ?_
    simp only [posthouselaw6_PatternsMatchSpec.j1]
    by_cases h : f = (0, 0)
    · have hm : mfault kind p t = (0, 0) := by rw [← hf, h]
      have k3 := (pfault_zero (mfault_zero hm).1).2.2.1
      rw [chars_len] at k3
      have hl := mres_len kind p t k3
      unfold mall
      rw [if_pos hm, h]
      refine ev_pos rfl (Ev.bind (refmatched_ev kind p t hm) (ev_pos rfl (ev_pos (by simp) ?_)))
      exact Ev.bind (texts_ev _ _ (by dsimp only; omega)) (ev_pos (by simp) (Ev.bind hM (Ev.now _)))
    · have hm : ¬ mfault kind p t = (0, 0) := by rw [← hf]; exact h
      have h0 : ¬ f.1 = 0 := by
        rw [hf]
        intro h1
        apply hm
        unfold mfault pfault at h1 ⊢
        split
        · rename_i h2
          rw [if_pos h2] at h1
          cases h1
        · rename_i h2
          rw [if_neg h2] at h1
          split
          · rename_i h3
            rw [if_pos h3] at h1
            cases h1
          · rename_i h3
            rw [if_neg h3] at h1
            split
            · rename_i h4
              rw [if_pos h4] at h1
              cases h1
            · rename_i h4
              rw [if_neg h4] at h1
              split
              · rename_i h5
                rw [if_pos h5] at h1
                cases h1
              · rfl
      unfold mall
      rw [if_neg hm, ← hf]
      exact ev_neg h0 (ev_pos (by simp) (ev_neg (by simp) (ev_pos (by simp) (Ev.bind hM (Ev.now _)))))
  have hj0 : ∀ b : Bool, (b = true ↔ pfault kind (chars p) = (0, 0) ∧ t.size > 4000) → Ev (fun k => posthouselaw6_PatternsMatchSpec.j0 k kind p t (mall kind p t).1 (mall kind p t).2.1 b (mall kind p t).2.2.1 (mall kind p t).2.2.2 (pfault kind (chars p)).1 (pfault kind (chars p)).2) true := by
    intro b hb
    refine ev_succ ?_
    simp only [posthouselaw6_PatternsMatchSpec.j0, posthouseref5_At.f, Option.bind_some]
    by_cases h : pfault kind (chars p) = (0, 0) ∧ t.size > 4000
    · exact ev_pos (hb.2 h) (hj1 (1, -1) (by unfold mfault; rw [if_pos h]))
    · exact ev_neg (fun e => h (hb.1 e)) (hj1 _ (by unfold mfault; rw [if_neg h]))
  have hz : (pfault kind (chars p)).1 = 0 ↔ pfault kind (chars p) = (0, 0) := by
    constructor
    · intro h
      unfold pfault at h ⊢
      split
      · rename_i h3
        rw [if_pos h3] at h
        cases h
      · rename_i h3
        rw [if_neg h3] at h
        split
        · rename_i h4
          rw [if_pos h4] at h
          cases h
        · rename_i h4
          rw [if_neg h4] at h
          split
          · rename_i h5
            rw [if_pos h5] at h
            cases h
          · rfl
    · intro h
      rw [h]
  refine ev_ite (fun h => hj0 _ ?_) (fun h => hj0 _ ?_)
  · rw [hz] at h
    simp [h]
    omega
  · rw [hz] at h
    simp [h]
end Go.Proofs.Ytdnacfnmaieeiaa.Print
