/- Freebusy: the gaps. No program. -/
import Derived.Test.YtpgnhajindbhlaaFbP
set_option linter.unusedSimpArgs false
set_option linter.unusedVariables false
namespace Go.Fw
def gPut (n a b : Int) (acc : List Period) : List Period := if n ≤ b - a then acc ++ [⟨a, b⟩] else acc
def gStep (from' to' n : Int) (s : List Period × Int) (p : Period) : List Period × Int :=
  if p.To ≤ from' ∨ to' ≤ p.From then s else (gPut n s.2 (max p.From from') s.1, min p.To to')
def gapsU (u : List Period) (from' to' n : Int) : List Period :=
  let s := u.foldl (gStep from' to' n) ([], from')
  gPut n s.2 to' s.1
def gapsF (l : List Period) (from' to' n : Int) : List Period := gapsU (unionF l) from' to' n
theorem longF_app (a b : List Period) (n : Int) : longF (a ++ b) n = longF a n ++ longF b n := by simp [longF]
theorem gPut_long {n a b : Int} (hn : 1 ≤ n) (acc acc' : List Period) (h : acc' = longF acc n) : gPut n a b acc' = longF (gPut 1 a b acc) n := by
  unfold gPut
  by_cases h1 : n ≤ b - a
  · rw [if_pos h1, if_pos (by omega), longF_app, h]
    simp [longF, h1]
  · rw [if_neg h1]
    split
    · rw [longF_app, h]; simp [longF]; omega
    · exact h
theorem gFold_long {f t n : Int} (hn : 1 ≤ n) : ∀ (u : List Period) (s s' : List Period × Int), s'.1 = longF s.1 n → s'.2 = s.2 →
    (u.foldl (gStep f t n) s').1 = longF (u.foldl (gStep f t 1) s).1 n ∧ (u.foldl (gStep f t n) s').2 = (u.foldl (gStep f t 1) s).2
  | [], s, s', h1, h2 => ⟨h1, h2⟩
  | p :: u, s, s', h1, h2 => by
    rw [List.foldl_cons, List.foldl_cons]
    refine gFold_long hn u _ _ ?_ ?_
    · unfold gStep
      split
      · exact h1
      · rw [h2]; exact gPut_long hn _ _ h1
    · unfold gStep
      split
      · exact h2
      · rfl
theorem gaps_long {l : List Period} {f t n : Int} (hn : 1 ≤ n) : gapsF l f t n = longF (gapsF l f t 1) n := by
  unfold gapsF gapsU
  obtain ⟨h1, h2⟩ := gFold_long (f := f) (t := t) hn (unionF l) ([], f) ([], f) rfl rfl
  simp only [h2]
  exact gPut_long hn _ _ h1
theorem gap_fold {f t : Int} : ∀ (s acc : List Period) (x : Int), Can s → f ≤ x → x ≤ t → ((∀ p ∈ s, x ≤ p.From) ∨ x = f) → Can acc → (∀ a ∈ acc, a.To < x) →
    Can (gPut 1 (s.foldl (gStep f t 1) (acc, x)).2 t (s.foldl (gStep f t 1) (acc, x)).1) ∧
    ∀ i, isBusy (gPut 1 (s.foldl (gStep f t 1) (acc, x)).2 t (s.foldl (gStep f t 1) (acc, x)).1) i = (isBusy acc i || (decide (x ≤ i) && decide (i < t) && !isBusy s i))
  | [], acc, x, _, hf, ht, _, hc, hl => by
    simp only [List.foldl_nil]
    unfold gPut
    split
    · refine ⟨hc.snoc (by simp; omega) (by simpa using hl), fun i => ?_⟩
      rw [busy_app, busy_cons, busy_nil]
      simp
    · refine ⟨hc, fun i => ?_⟩
      have : (decide (x ≤ i) && decide (i < t)) = false := by rw [Bool.eq_false_iff]; simp; omega
      rw [this]; simp
  | p :: s, acc, x, hs, hf, ht, hx, hc, hl => by
    have hp := hs.pos
    have hlt := fun q hq => hs.lt (q := q) hq
    rw [List.foldl_cons]
    by_cases e : p.To ≤ f ∨ t ≤ p.From
    · have hst : gStep f t 1 (acc, x) p = (acc, x) := by simp [gStep, e]
      rw [hst]
      obtain ⟨h1, h2⟩ := gap_fold s acc x hs.tail hf ht (hx.imp (fun h q hq => h q (List.mem_cons_of_mem _ hq)) id) hc hl
      refine ⟨h1, fun i => ?_⟩
      rw [h2, busy_cons]
      cases hb : (decide (x ≤ i) && decide (i < t)) with
      | false => rfl
      | true =>
        have : (decide (p.From ≤ i) && decide (i < p.To)) = false := by
          rw [Bool.eq_false_iff]; simp at hb ⊢; omega
        rw [this]; simp
    · have hst : gStep f t 1 (acc, x) p = (gPut 1 x (max p.From f) acc, min p.To t) := by simp only [gStep, if_neg e]
      rw [hst]
      have hfx : x ≤ max p.From f := by
        rcases hx with hx | rfl
        · have := hx p List.mem_cons_self; omega
        · omega
      have hc' : Can (gPut 1 x (max p.From f) acc) ∧ (∀ a ∈ gPut 1 x (max p.From f) acc, a.To < min p.To t) ∧ ∀ i, isBusy (gPut 1 x (max p.From f) acc) i = (isBusy acc i || (decide (x ≤ i) && decide (i < max p.From f))) := by
        unfold gPut
        split
        · refine ⟨hc.snoc (by simp; omega) (by simpa using hl), fun a ha => ?_, fun i => ?_⟩
          · rcases List.mem_append.1 ha with ha | ha
            · have := hl a ha; omega
            · simp at ha; subst ha; simp; omega
          · rw [busy_app, busy_cons, busy_nil]; simp
        · refine ⟨hc, fun a ha => ?_, fun i => ?_⟩
          · have := hl a ha; omega
          · have : (decide (x ≤ i) && decide (i < max p.From f)) = false := by rw [Bool.eq_false_iff]; simp; omega
            rw [this]; simp
      obtain ⟨h1, h2⟩ := gap_fold (f := f) (t := t) s _ (min p.To t) hs.tail (by omega) (by omega) (.inl (fun q hq => by have := hlt q hq; omega)) hc'.1 hc'.2.1
      refine ⟨h1, fun i => ?_⟩
      rw [h2, hc'.2.2, busy_cons]
      cases isBusy acc i with
      | true => simp
      | false =>
        simp only [Bool.false_or]
        cases hb : isBusy s i with
        | false =>
          rw [Bool.eq_iff_iff]; simp; omega
        | true =>
          have := hs.tail_gt hb
          rw [Bool.eq_iff_iff]; simp; omega
theorem gap_spec {l : List Period} {f t : Int} (hu : Up l) (hft : f ≤ t) : Can (gapsF l f t 1) ∧ ∀ i, isBusy (gapsF l f t 1) i = (decide (f ≤ i) && decide (i < t) && !isBusy l i) := by
  obtain ⟨h1, h2⟩ := union_spec hu
  obtain ⟨h3, h4⟩ := gap_fold (f := f) (t := t) (unionF l) [] f h1 (by omega) hft (.inr rfl) Can.nil (by simp)
  exact ⟨h3, fun i => by
    have := h4 i
    rw [busy_nil, Bool.false_or, h2] at this
    exact this⟩
theorem gPut_len (n a b : Int) (acc : List Period) : (gPut n a b acc).length ≤ acc.length + 1 := by
  unfold gPut; split <;> simp
theorem gFold_len (f t n : Int) : ∀ (s : List Period) (a : List Period × Int), (s.foldl (gStep f t n) a).1.length ≤ a.1.length + s.length
  | [], a => by simp
  | p :: s, a => by
    have h := gFold_len f t n s (gStep f t n a p)
    have : (gStep f t n a p).1.length ≤ a.1.length + 1 := by
      unfold gStep; split
      · omega
      · exact gPut_len ..
    simp only [List.foldl_cons, List.length_cons]
    omega
theorem gaps_len (l : List Period) (f t n : Int) : (gapsF l f t n).length ≤ l.length + 1 := by
  unfold gapsF gapsU
  have h1 := gFold_len f t n (unionF l) ([], f)
  have h2 := gPut_len n ((unionF l).foldl (gStep f t n) ([], f)).2 t ((unionF l).foldl (gStep f t n) ([], f)).1
  have h3 := union_len l
  simp only [List.length_nil] at h1
  simp only
  omega
/-- The current end stays in the span. -/
theorem gFold_at {f t n : Int} (hft : f ≤ t) : ∀ (s : List Period) (a : List Period × Int), f ≤ a.2 ∧ a.2 ≤ t → f ≤ (s.foldl (gStep f t n) a).2 ∧ (s.foldl (gStep f t n) a).2 ≤ t
  | [], a, h => h
  | p :: s, a, h => by
    rw [List.foldl_cons]
    refine gFold_at hft s _ ?_
    unfold gStep
    split
    · exact h
    · simp; omega
/-! ### What is free and what is busy make up the span -/
def sumL : List Period → Int
  | [] => 0
  | p :: l => (p.To - p.From) + sumL l
theorem sumL_app : ∀ a b, sumL (a ++ b) = sumL a + sumL b
  | [], b => by simp [sumL]
  | p :: a, b => by simp only [List.cons_append, sumL, sumL_app a b]; omega
def clip (f t : Int) (p : Period) : Int := let n := min p.To t - max p.From f; if 0 < n then n else 0
def sumC (f t : Int) : List Period → Int
  | [] => 0
  | p :: l => clip f t p + sumC f t l
theorem parts_fold {f t : Int} : ∀ (s acc : List Period) (x : Int), Can s → f ≤ x → x ≤ t → ((∀ p ∈ s, x ≤ p.From) ∨ x = f) →
    sumL (gPut 1 (s.foldl (gStep f t 1) (acc, x)).2 t (s.foldl (gStep f t 1) (acc, x)).1) + sumC f t s = sumL acc + (t - x)
  | [], acc, x, _, hf, ht, _ => by
    simp only [List.foldl_nil, sumC]
    unfold gPut
    split
    · rw [sumL_app]; simp [sumL]
    · omega
  | p :: s, acc, x, hs, hf, ht, hx => by
    have hp := hs.pos
    have hlt := fun q hq => hs.lt (q := q) hq
    rw [List.foldl_cons]
    by_cases e : p.To ≤ f ∨ t ≤ p.From
    · have hst : gStep f t 1 (acc, x) p = (acc, x) := by simp [gStep, e]
      rw [hst]
      have h1 := parts_fold s acc x hs.tail hf ht (hx.imp (fun h q hq => h q (List.mem_cons_of_mem _ hq)) id)
      have : clip f t p = 0 := by unfold clip; simp only; split <;> omega
      simp only [sumC]
      omega
    · have hst : gStep f t 1 (acc, x) p = (gPut 1 x (max p.From f) acc, min p.To t) := by simp only [gStep, if_neg e]
      rw [hst]
      have hfx : x ≤ max p.From f := by
        rcases hx with hx | rfl
        · have := hx p List.mem_cons_self; omega
        · omega
      have h1 := parts_fold (f := f) (t := t) s (gPut 1 x (max p.From f) acc) (min p.To t) hs.tail (by omega) (by omega) (.inl (fun q hq => by have := hlt q hq; omega))
      have h2 : sumL (gPut 1 x (max p.From f) acc) = sumL acc + (max p.From f - x) := by
        unfold gPut
        split
        · rw [sumL_app]; simp [sumL]
        · omega
      have h3 : clip f t p = min p.To t - max p.From f := by unfold clip; simp only; split <;> omega
      simp only [sumC]
      omega
theorem parts {l : List Period} {f t : Int} (hu : Up l) (hft : f ≤ t) : sumL (gapsF l f t 1) + sumC f t (unionF l) = t - f := by
  have := parts_fold (f := f) (t := t) (unionF l) [] f (union_spec hu).1 (by omega) hft (.inr rfl)
  simp only [sumL] at this
  unfold gapsF gapsU
  simp only
  omega
end Go.Fw
