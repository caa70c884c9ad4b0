/- Match in plain words. -/
import Derived.Test.YtdnacfnmaieeiaaPurePatRef
import Derived.Test.YtdnacfnmaieeiaaFpatternsMatch
import Derived.Test.YtdnacfnmaieeiaaFposthouselaw6matched
import Derived.Test.YtdnacfnmaieeiaaPureTexts
set_option linter.unusedSimpArgs false
set_option linter.unusedVariables false
namespace Go.Proofs.Ytdnacfnmaieeiaa.Print
open Go.RowKit Go.Proofs.YtdnacfnmaieeiaaW.PrintWords Go.Proofs.YtdnacfnmaieeiaaO.Kit
/-- The fault of a match. -/
def mfault (kind : Int) (p t : ByteArray) : Int × Int := if pfault kind (chars p) = (0, 0) ∧ t.size > 4000 then (1, -1) else pfault kind (chars p)
/-- What a match without a fault answers. -/
def mres (kind : Int) (p t : ByteArray) : Bool × List ByteArray :=
  if kind = 1 then (eqL (chars t) (chars p), []) else if kind = 2 then (hasL (chars p) (chars t), []) else match pc (chars p) with | some l => wres t l | none => (false, [])
def mall (kind : Int) (p t : ByteArray) : Bool × List ByteArray × Int × Int :=
  if mfault kind p t = (0, 0) then ((mres kind p t).1, (mres kind p t).2, 0, 0) else (false, [], (mfault kind p t).1, (mfault kind p t).2)
theorem pfault_zero {kind : Int} {p : List Int} (h : pfault kind p = (0, 0)) : 1 ≤ kind ∧ kind ≤ 3 ∧ p.length ≤ 200 ∧ (kind = 3 → ∃ l, pc p = some l) := by
  unfold pfault at h
  by_cases h1 : ¬ (1 ≤ kind ∧ kind ≤ 3)
  · rw [if_pos h1] at h
    cases h
  · rw [if_neg h1] at h
    by_cases h2 : p.length > 200
    · rw [if_pos h2] at h
      cases h
    · rw [if_neg h2] at h
      by_cases h3 : pc p = none ∧ kind = 3
      · rw [if_pos h3] at h
        cases h
      · refine ⟨by omega, by omega, by omega, fun hk => ?_⟩
        rcases hq : pc p with _ | l
        · exact absurd ⟨hq, hk⟩ h3
        · exact ⟨l, rfl⟩
theorem mfault_zero {kind : Int} {p t : ByteArray} (h : mfault kind p t = (0, 0)) : pfault kind (chars p) = (0, 0) ∧ t.size ≤ 4000 := by
  unfold mfault at h
  by_cases h1 : pfault kind (chars p) = (0, 0) ∧ t.size > 4000
  · rw [if_pos h1] at h
    cases h
  · rw [if_neg h1] at h
    refine ⟨h, ?_⟩
    rcases Nat.lt_or_ge 4000 t.size with h2 | h2
    · exact absurd ⟨h, h2⟩ h1
    · exact h2
theorem match_ev (kind : Int) (p t : ByteArray) : Ev (fun k => patterns_Match.f k kind p t) (mall kind p t) := by
  unfold patterns_Match.f
  refine Ev.bind (check_ev kind p) ?_
  have hj1 : ∀ f : Int × Int, f = mfault kind p t → Ev (fun k => patterns_Match.j1 k kind p t f.1 f.2) (mall kind p t) := by
    intro f hf
    refine ev_succ ?_
    simp only [patterns_Match.j1]
    by_cases h : f = (0, 0)
    · have hm : mfault kind p t = (0, 0) := by rw [← hf, h]
      obtain ⟨h1, h2⟩ := mfault_zero hm
      obtain ⟨k1, k2, k3, k4⟩ := pfault_zero h1
      rw [chars_len] at k3
      unfold mall
      rw [if_pos hm]
      rw [h]
      refine ev_neg (by decide) ?_
      unfold mres
      by_cases c1 : kind = 1
      · rw [if_pos c1]
        exact ev_pos c1 (Ev.bind (equal_ev t p (by omega)) (Ev.now _))
      · rw [if_neg c1]
        refine ev_neg c1 ?_
        by_cases c2 : kind = 2
        · rw [if_pos c2]
          exact ev_pos c2 (Ev.bind (pcontains_ev t p (by omega) (by omega)) (Ev.now _))
        · rw [if_neg c2]
          refine ev_neg c2 ?_
          obtain ⟨l, hl⟩ := k4 (by omega)
          have hll := pc_len _ _ (Nat.le_refl _) l hl
          rw [chars_len] at hll
          refine Ev.bind (pieces_ev p (by omega)) ?_
          rw [hl]
          refine Ev.bind (wild_ev ([] ++ l) t (by simpa using (by omega)) h2) (ev_now ?_)
          simp [wres]
    · have hm : ¬ mfault kind p t = (0, 0) := by rw [← hf]; exact h
      unfold mall
      rw [if_neg hm, ← hf]
      refine ev_pos ?_ (Ev.now _)
      obtain ⟨a, b⟩ := f
      simp only [Prod.mk.injEq, not_and] at h
      simp only [Bool.or_eq_true, Bool.not_eq_true', beq_eq_false_iff_ne, ne_eq]
      by_cases ha : a = 0
      · exact .inr (h ha)
      · exact .inl ha
  have hj0 : ∀ b : Bool, (b = true ↔ pfault kind (chars p) = (0, 0) ∧ t.size > 4000) → Ev (fun k => patterns_Match.j0 k kind p t b (pfault kind (chars p)).1 (pfault kind (chars p)).2) (mall kind p t) := by
    intro b hb
    refine ev_succ ?_
    simp only [patterns_Match.j0]
    by_cases h : pfault kind (chars p) = (0, 0) ∧ t.size > 4000
    · exact ev_pos (hb.2 h) (hj1 (1, -1) (by unfold mfault; rw [if_pos h]))
    · exact ev_neg (fun e => h (hb.1 e)) (hj1 _ (by unfold mfault; rw [if_neg h]))
  have hz : ((pfault kind (chars p)).1 == 0 && ((pfault kind (chars p)).2 == 0)) = true ↔ pfault kind (chars p) = (0, 0) := by
    obtain ⟨a, b⟩ := pfault kind (chars p)
    simp
  refine ev_ite (fun h => hj0 _ ?_) (fun h => hj0 _ ?_)
  · rw [hz] at h
    simp [h]
    omega
  · rw [hz] at h
    simp [h]
theorem matched_ev : Ev (fun k => posthouselaw6_matched.f k) true := by
  unfold posthouselaw6_matched.f
  refine Ev.bind (match_ev _ _ _) (Ev.bind (match_ev _ _ _) ?_)
  have e1 : mall 3 (⟨#[97, 42, 98]⟩ : ByteArray) (⟨#[97, 88, 98, 98]⟩ : ByteArray) = (true, [(⟨#[88, 98]⟩ : ByteArray)], 0, 0) := by decide +kernel
  have e2 : mall 1 (⟨#[97]⟩ : ByteArray) (⟨#[98]⟩ : ByteArray) = (false, [], 0, 0) := by decide +kernel
  rw [e1, e2]
  exact ev_pos rfl (ev_pos rfl (ev_pos rfl (ev_neg (by decide) (Ev.bind (texts_ev _ _ (by simp)) (ev_now (by simp))))))
theorem mres_len (kind : Int) (p t : ByteArray) (hp : p.size ≤ 200) : (mres kind p t).2.length ≤ 200 := by
  unfold mres
  split
  · simp
  · split
    · simp
    · split
      · rename_i l hl
        have h1 := wres_len t l
        have h2 := pc_len _ _ (Nat.le_refl _) l hl
        rw [chars_len] at h2
        omega
      · simp
end Go.Proofs.Ytdnacfnmaieeiaa.Print
