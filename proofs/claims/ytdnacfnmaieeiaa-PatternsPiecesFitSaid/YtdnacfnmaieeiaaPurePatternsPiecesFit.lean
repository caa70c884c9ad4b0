import Derived.Test.YtdnacfnmaieeiaaStPatternsPiecesFit
import Derived.Test.YtdnacfnmaieeiaaPurePatMatch
set_option linter.unusedSimpArgs false
set_option linter.unusedVariables false
namespace Go.Proofs.Ytdnacfnmaieeiaa.Print
open Go.RowKit Go.Proofs.YtdnacfnmaieeiaaW.PrintWords Go.Proofs.YtdnacfnmaieeiaaO.Opn Go.Proofs.YtdnacfnmaieeiaaO.Kit
theorem wsum {i e : Nat} (h : i ≤ e) (he : e ≤ 4000) : wrap64 ((i : Int) + ((e - i : Nat) : Int)) = (e : Int) := by
  unfold wrap64
  omega
theorem pieces_loop (p t : ByteArray) (out : List ByteArray) (hp : p.size ≤ 200) (ht : t.size ≤ 4000) (hout : out.length ≤ 200) : ∀ (n x : Nat), p.size - x ≤ n → ∀ (l : List S56) (i k : Nat), i ≤ t.size → pc ((chars p).drop x) = some l → fit l ((chars t).drop i) = true → out.drop k = cut t l i → k ≤ out.length →
    Ev (fun f => posthouselaw6_PatternsPiecesFit.l0 f p t out k i x) true := by
  intro n
  have fin : ∀ x : Nat, p.size ≤ x → ∀ (l : List S56) (i k : Nat), i ≤ t.size → pc ((chars p).drop x) = some l → fit l ((chars t).drop i) = true → out.drop k = cut t l i → k ≤ out.length → Ev (fun f => posthouselaw6_PatternsPiecesFit.l0 f p t out k i x) true := by
    intro x hx l i k hi hpc hf hk hkl
    rw [drop_all p hx] at hpc
    obtain rfl := Option.some.inj hpc
    have h1 := drop_ge (xs := out) (i := k) hk
    have h2 : t.size ≤ i := by
      rcases Nat.lt_or_ge i t.size with h | h
      · rw [chars_drop t i h] at hf
        cases hf
      · exact h
    refine ev_succ ?_
    simp only [posthouselaw6_PatternsPiecesFit.l0]
    exact ev_neg (by omega) (ev_pos (by omega) (ev_pos (by omega) (Ev.bind matched_ev (Ev.now _))))
  induction n with
  | zero => exact fun x hx => fin x (by omega)
  | succ n ih =>
    intro x hx l i k hi hpc hf hk hkl
    by_cases hlt' : ¬ x < p.size
    · exact fin x (by omega) l i k hi hpc hf hk hkl
    have hlt := Classical.not_not.1 hlt'
    have hd := chars_drop p x hlt
    have hr := bt_range p x
    rw [hd] at hpc
    refine ev_succ ?_
    simp only [posthouselaw6_PatternsPiecesFit.l0, wN (show i < 9223372036854775807 by omega), wN (show x < 9223372036854775807 by omega), wN (show x + 1 < 9223372036854775807 by omega)]
    refine ev_pos (by omega) (ev_pos (by omega) ?_)
    -- a byte of the text for a byte of the pattern
    have hone : ∀ (q : S56) (l' : List S56), l = q :: l' → ¬ q.f0 = 42 → i < t.size ∧ fit l' ((chars t).drop (i + 1)) = true := by
      intro q l' he hq
      subst he
      rcases Nat.lt_or_ge i t.size with h | h
      · rw [chars_drop t i h, fit_one hq, Bool.and_eq_true] at hf
        exact ⟨h, hf.1⟩
      · rw [drop_all t h, fit_none hq] at hf
        cases hf
    -- behind a piece
    have hpiece : ∀ (e : Nat) (l' : List S56), i ≤ e → e ≤ t.size → out.drop k = t.extract i e :: cut t l' e → (bt p x = 63 → e = i + 1) → (bt p x = 42 ∨ bt p x = 63) → pc ((chars p).drop (x + 1)) = some l' → fit l' ((chars t).drop e) = true →
        ∀ b : Bool, b = true → Ev (fun f => posthouselaw6_PatternsPiecesFit.j2 f p t out k i x 1 b) true := by
      intro e l' hie het ho h63 hsp hpc' hf' b hb
      have hkl2 := drop_lt ho
      have hrd : rdOf ByteArray.empty out (k : Int) = t.extract i e := rdOf_drop (i := (k : Int)) (by rw [Int.toNat_natCast]; exact ho)
      have hsz : (t.extract i e).size = e - i := by rw [ByteArray.size_extract]; omega
      have hj3 : ∀ c : Bool, c = false → Ev (fun f => posthouselaw6_PatternsPiecesFit.j3 f p t out k i x c) true := by
        intro c hc
        refine ev_succ ?_
        simp only [posthouselaw6_PatternsPiecesFit.j3, hrd, hsz, wN (show k < 9223372036854775807 by omega), wN (show x < 9223372036854775807 by omega)]
        have q1 : (0 : Int) ≤ (k : Int) := by omega
        have q2 : (k : Int) < (out.length : Int) := by omega
        have q3 : ¬ ((e : Int) > (t.size : Int)) := by omega
        have q4 : (0 : Int) ≤ (i : Int) := by omega
        have q5 : (i : Int) ≤ (e : Int) := by omega
        have q6 : (e : Int) ≤ (t.size : Int) := by omega
        have q7 : p.size - (x + 1) ≤ n := by omega
        rw [wsum hie (by omega), Int.toNat_natCast, Int.toNat_natCast]
        refine ev_neg (by rw [hc]; decide) ?_
        refine ev_pos q1 ?_
        refine ev_pos q2 ?_
        refine ev_neg q3 ?_
        refine ev_pos q4 ?_
        refine ev_pos q5 ?_
        refine ev_pos q6 ?_
        refine ev_pos rfl ?_
        exact ih (x + 1) q7 l' e (k + 1) het hpc' hf' (drop_step ho) hkl2
      refine ev_succ ?_
      simp only [posthouselaw6_PatternsPiecesFit.j2]
      refine ev_pos hb (ev_neg (by omega) (ev_pos (by omega) (ev_pos (by omega) ?_)))
      refine ev_ite (fun h => ev_pos (by omega) (ev_pos (by omega) (hj3 _ ?_))) (fun h => hj3 _ rfl)
      rw [hrd, hsz, h63 h]
      simp
    by_cases h92 : bt p x = 92
    · rw [h92] at hpc
      refine ev_pos h92 ?_
      by_cases h1 : x + 1 < p.size
      · rw [chars_drop p (x + 1) h1, pc_esc] at hpc
        obtain ⟨l', hl', rfl⟩ := Option.map_eq_some_iff.1 hpc
        obtain ⟨hi1, hf1⟩ := hone _ l' rfl (by show ¬ (0 : Int) = 42; decide)
        rw [cut_lit t rfl] at hk
        exact ih (x + 1 + 1) (by omega) l' (i + 1) k (by omega) hl' hf1 hk hkl
      · rw [drop_all p (by omega)] at hpc
        cases hpc
    · refine ev_neg h92 ?_
      by_cases h42 : bt p x = 42
      · refine ev_pos h42 ?_
        rw [pc_star (.inl h42)] at hpc
        obtain ⟨l', hl', rfl⟩ := Option.map_eq_some_iff.1 hpc
        have hl0 := least_le (fit l') ((chars t).drop i)
        rw [List.length_drop, chars_len] at hl0
        rw [fit_star h42] at hf
        have hfit := least_fit (fit l') _ hf
        rw [List.drop_drop] at hfit
        rw [cut_star t h42] at hk
        exact hpiece _ l' (by omega) (by omega) hk (by omega) (.inl h42) hl' hfit true rfl
      · refine ev_neg h42 ?_
        by_cases h63 : bt p x = 63
        · rw [pc_star (.inr h63)] at hpc
          obtain ⟨l', hl', rfl⟩ := Option.map_eq_some_iff.1 hpc
          obtain ⟨hi1, hf1⟩ := hone _ l' rfl h42
          rw [cut_any t h42 (show ¬ bt p x = 0 by omega)] at hk
          exact hpiece (i + 1) l' (by omega) (by omega) hk (fun _ => rfl) (.inr h63) hl' hf1 _ (by simp [h63])
        · rw [pc_lit (by omega) h92] at hpc
          obtain ⟨l', hl', rfl⟩ := Option.map_eq_some_iff.1 hpc
          obtain ⟨hi1, hf1⟩ := hone _ l' rfl (by show ¬ (0 : Int) = 42; decide)
          rw [cut_lit t rfl] at hk
          refine ev_succ ?_
          simp only [posthouselaw6_PatternsPiecesFit.j2, wN (show i < 9223372036854775807 by omega), wN (show x < 9223372036854775807 by omega)]
          exact ev_neg (by simpa using h63) (ih (x + 1) (by omega) l' (i + 1) k (by omega) hl' hf1 hk hkl)
theorem posthouselaw6_PatternsPiecesFit.pure : posthouselaw6_PatternsPiecesFit.Want := by
  intro p t _ _
  refine Ev.rounds ?_
  unfold posthouselaw6_PatternsPiecesFit.f
  refine Ev.bind (match_ev 3 p t) ?_
  have hempty : ∀ b : Bool, b = true → (mall 3 p t).2.1 = [] → Ev (fun k => posthouselaw6_PatternsPiecesFit.j0 k p t (mall 3 p t).2.1 b) true := by
    intro b hb he
    refine ev_succ ?_
    simp only [posthouselaw6_PatternsPiecesFit.j0]
    rw [he]
    exact ev_pos hb (ev_pos (by simp) (Ev.bind matched_ev (Ev.now _)))
  by_cases hz : mfault 3 p t = (0, 0)
  · obtain ⟨h1, h2⟩ := mfault_zero hz
    obtain ⟨_, _, k3, k4⟩ := pfault_zero h1
    rw [chars_len] at k3
    obtain ⟨l, hl⟩ := k4 rfl
    have hm : mall 3 p t = ((wres t l).1, (wres t l).2, 0, 0) := by
      unfold mall mres
      rw [if_pos hz, if_neg (by decide), if_neg (by decide), hl]
    rw [hm] at hempty ⊢
    refine ev_pos rfl ?_
    by_cases hf : fit l (chars t) = true
    · have hw : wres t l = (true, cut t l 0) := by
        unfold wres
        rw [if_pos hf, hf]
      rw [hw]
      have hcl := cut_len t l 0
      have hll := pc_len _ _ (Nat.le_refl _) l hl
      rw [chars_len] at hll
      refine ev_succ ?_
      simp only [posthouselaw6_PatternsPiecesFit.j0]
      refine ev_neg (by decide) ?_
      exact pieces_loop p t (cut t l 0) k3 h2 (by omega) p.size 0 (by omega) l 0 0 (by omega) (by simpa using hl) (by simpa using hf) rfl (by omega)
    · have hw : wres t l = (false, []) := by
        unfold wres
        rw [if_neg hf]
        simp only [Bool.not_eq_true] at hf
        rw [hf]
      rw [hw] at hempty ⊢
      exact hempty _ rfl rfl
  · have hm : mall 3 p t = (false, [], (mfault 3 p t).1, (mfault 3 p t).2) := by
      unfold mall
      rw [if_neg hz]
    rw [hm] at hempty ⊢
    refine ev_ite (fun h => hempty _ rfl rfl) (fun h => hempty _ rfl rfl)
end Go.Proofs.Ytdnacfnmaieeiaa.Print
