import Derived.Test.YtdnacfnmaieeiaaStApplyTwice
import Derived.Test.YtdnacfnmaieeiaaPureApplyMore
set_option linter.unusedSimpArgs false
set_option linter.unusedVariables false
namespace Go.Proofs.Ytdnacfnmaieeiaa.Print
open Go.RowKit Go.Proofs.YtdnacfnmaieeiaaW.PrintWords Go.Proofs.YtdnacfnmaieeiaaO.Opn Go.Proofs.YtdnacfnmaieeiaaO.Kit
theorem zlen {α : Type} (Z : α → Nat) (h : ∀ x, 1 ≤ Z x) (l : List α) : l.length ≤ ZSlice Z l := by
  unfold ZSlice
  induction l with
  | nil => simp
  | cons x l ih =>
    have := h x
    simp only [List.length_cons, List.map_cons, List.sum_cons] at *
    omega
theorem posthouselaw6_ApplyTwice.pure : posthouselaw6_ApplyTwice.Pure := by
  intro l _ hz
  have hlen : l.length ≤ 1048576 := Nat.le_trans (zlen Z35 (fun x => by unfold Z35 ZIso; omega) l) hz
  refine Ev.rounds ?_
  unfold posthouselaw6_ApplyTwice.f
  refine Ev.bind (effects_ev l) (ev_some (ev_pos (by simp; omega) (ev_some (ev_pos (by simp; omega) ?_))))
  rw [List.nil_append]
  refine Ev.bind (effects_ev (l ++ l)) ?_
  have hA := applied_ev
  by_cases h300 : (l.length : Int) ≤ 300
  · rcases effects_cases l h300 with ⟨c, j, hc, h1, h2⟩ | ⟨s', h1, h2, h3, h4⟩
    · have hcode : (effects (l ++ l)).2.2.2.2.2.1 ≠ 0 := by
        by_cases h6 : (l ++ l).length ≤ 300
        · rw [h2 l h6]
          exact hc
        · unfold effects
          rw [if_pos (by omega)]
          simp [bad]
      rw [h1]
      refine ev_neg hc (ev_succ ?_)
      simp only [posthouselaw6_ApplyTwice.j0]
      exact ev_pos trivial (ev_neg hcode (Ev.bind hA (Ev.now _)))
    · rw [h1]
      refine ev_pos rfl (ev_succ ?_)
      simp only [posthouselaw6_ApplyTwice.j0]
      by_cases h6 : (l ++ l).length ≤ 300
      · rw [h2 l h6, effsS_kept l _ s' h3]
        have hl := effects_len l
        rw [h1] at hl
        dsimp only at hl
        refine ev_neg (by simp) (Ev.bind (same_ev _ _ _ _ _ _ _ _ _ _ (by omega) (by omega) (by omega) (by omega)) (ev_pos (by simp) (Ev.bind hA (Ev.now _))))
      · have hcode : (effects (l ++ l)).2.2.2.2.2.1 = 2 := by
          unfold effects
          rw [if_pos (by omega)]
          rfl
        rw [hcode]
        exact ev_pos (by simp) (ev_neg (by simp) (Ev.bind hA (Ev.now _)))
  · have h1 : (effects l).2.2.2.2.2.1 = 2 := by
      unfold effects
      rw [if_pos (by omega)]
      rfl
    have h2 : (effects (l ++ l)).2.2.2.2.2.1 = 2 := by
      unfold effects
      rw [if_pos (by rw [List.length_append]; omega)]
      rfl
    rw [h1]
    refine ev_neg (by decide) (ev_succ ?_)
    simp only [posthouselaw6_ApplyTwice.j0]
    refine ev_pos trivial (ev_neg (by rw [h2]; decide) (Ev.bind hA (Ev.now _)))
end Go.Proofs.Ytdnacfnmaieeiaa.Print
