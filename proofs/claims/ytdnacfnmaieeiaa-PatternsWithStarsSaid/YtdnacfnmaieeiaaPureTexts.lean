/- Two lists of texts are equal: the reference's function tells it. -/
import Derived.Test.YtdnacfnmaieeiaaKit
import Derived.Test.YtdnacfnmaieeiaaFposthouseref5SameTexts
set_option linter.unusedSimpArgs false
set_option linter.unusedVariables false
namespace Go.Proofs.Ytdnacfnmaieeiaa.Print
open Go.RowKit Go.Proofs.YtdnacfnmaieeiaaW.PrintWords Go.Proofs.YtdnacfnmaieeiaaO.Kit
theorem texts_ev (L M : List ByteArray) (hL : L.length ≤ 9223372036854775806) : Ev (fun k => posthouseref5_SameTexts.f k L M) (decide (L = M)) := by
  unfold posthouseref5_SameTexts.f
  by_cases hlen : L.length = M.length
  · have key : ∀ (n i : Nat), i + n = L.length → Ev (fun k => posthouseref5_SameTexts.l0 k L M i) (decide (L.drop i = M.drop i)) := by
      intro n
      induction n with
      | zero =>
        intro i hi
        refine ev_succ ?_
        simp only [posthouseref5_SameTexts.l0]
        refine ev_neg (by omega) (ev_now ?_)
        rw [List.drop_of_length_le (by omega), List.drop_of_length_le (by omega)]
        simp
      | succ n ih =>
        intro i hi
        have hlt : i < L.length := by omega
        have hlt' : i < M.length := by omega
        have hd := List.drop_eq_getElem_cons hlt
        have hd' := List.drop_eq_getElem_cons hlt'
        refine ev_succ ?_
        simp only [posthouseref5_SameTexts.l0, toList_inj, rdOf_drop (d := ByteArray.empty) (i := (i : Int)) hd, rdOf_drop (d := ByteArray.empty) (i := (i : Int)) hd']
        refine ev_pos (by omega) (ev_pos (by omega) (ev_pos (by omega) ?_))
        by_cases he : L[i] = M[i]
        · refine ev_pos he ?_
          rw [w1 (by omega) (by omega)]
          refine ev_eq (ih (i + 1) (by omega)) ?_
          rw [hd, hd', he]
          simp only [List.cons.injEq, true_and]
        · refine ev_neg he (ev_now ?_)
          rw [hd, hd']
          simp only [List.cons.injEq, he, false_and, decide_false]
    refine ev_pos (by omega) ?_
    simpa using key L.length 0 (by omega)
  · refine ev_neg (by omega) (ev_now ?_)
    have : ¬ L = M := fun h => hlen (by rw [h])
    simp [this]
end Go.Proofs.Ytdnacfnmaieeiaa.Print
