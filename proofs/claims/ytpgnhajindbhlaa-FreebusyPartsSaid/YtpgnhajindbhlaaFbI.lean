/- Freebusy: the ends of periods in order; the longest periods that are all busy or all free. No program. -/
import Derived.Test.YtpgnhajindbhlaaFbG
set_option linter.unusedSimpArgs false
set_option linter.unusedVariables false
namespace Go.Fw
/-- The least number above last, at most to. -/
def nextB (all : List Int) (last to' : Int) : Int := all.foldl (fun nx x => if last < x ∧ x < nx then x else nx) (to' + 1)
theorem nextB_gen (last : Int) : ∀ (all : List Int) (n0 : Int), 
    let r := all.foldl (fun nx x => if last < x ∧ x < nx then x else nx) n0
    r ≤ n0 ∧ (r = n0 ∨ (r ∈ all ∧ last < r)) ∧ ∀ x ∈ all, last < x → r ≤ x
  | [], n0 => ⟨Int.le_refl _, .inl rfl, by simp⟩
  | y :: all, n0 => by
    obtain ⟨h1, h2, h3⟩ := nextB_gen last all (if last < y ∧ y < n0 then y else n0)
    simp only [List.foldl_cons]
    try simp only at h1 h2 h3
    generalize all.foldl (fun nx x => if last < x ∧ x < nx then x else nx) (if last < y ∧ y < n0 then y else n0) = r at h1 h2 h3
    by_cases c : last < y ∧ y < n0
    · rw [if_pos c] at h1 h2
      refine ⟨by omega, .inr ?_, fun x hx hl => ?_⟩
      · rcases h2 with rfl | ⟨h2, h4⟩
        · exact ⟨List.mem_cons_self, c.1⟩
        · exact ⟨List.mem_cons_of_mem _ h2, h4⟩
      · rcases List.mem_cons.1 hx with rfl | hx
        · exact h1
        · exact h3 x hx hl
    · rw [if_neg c] at h1 h2
      refine ⟨h1, h2.imp id (fun h => ⟨List.mem_cons_of_mem _ h.1, h.2⟩), fun x hx hl => ?_⟩
      rcases List.mem_cons.1 hx with rfl | hx
      · omega
      · exact h3 x hx hl
theorem nextB_spec (all : List Int) (last to' : Int) : nextB all last to' ≤ to' + 1 ∧ (nextB all last to' = to' + 1 ∨ (nextB all last to' ∈ all ∧ last < nextB all last to')) ∧ ∀ x ∈ all, last < x → nextB all last to' ≤ x := nextB_gen last all (to' + 1)
def boundsL (all : List Int) (to' last : Int) : List Int :=
  if h : nextB all last to' ≤ to' then nextB all last to' :: boundsL all to' (nextB all last to') else []
termination_by (to' - last).toNat
decreasing_by
  have := (nextB_spec all last to').2.1
  omega
theorem boundsL_stop {all : List Int} {to' last : Int} (h : ¬ nextB all last to' ≤ to') : boundsL all to' last = [] := by
  rw [boundsL, dif_neg h]
theorem boundsL_go {all : List Int} {to' last : Int} (h : nextB all last to' ≤ to') : boundsL all to' last = nextB all last to' :: boundsL all to' (nextB all last to') := by
  rw [boundsL, dif_pos h]
theorem boundsL_spec (all : List Int) (to' : Int) : ∀ (k : Nat) (last : Int), (to' - last).toNat ≤ k →
    (boundsL all to' last).Pairwise (· < ·) ∧ ∀ x, x ∈ boundsL all to' last ↔ x ∈ all ∧ last < x ∧ x ≤ to' := by
  intro k
  induction k with
  | zero =>
    intro last hk
    obtain ⟨h1, h2, h3⟩ := nextB_spec all last to'
    rw [boundsL_stop (by omega)]
    refine ⟨.nil, fun x => ?_⟩
    simp
    omega
  | succ k ih =>
    intro last hk
    obtain ⟨h1, h2, h3⟩ := nextB_spec all last to'
    by_cases c : nextB all last to' ≤ to'
    · have h4 : nextB all last to' ∈ all ∧ last < nextB all last to' := by
        rcases h2 with h2 | h2
        · omega
        · exact h2
      obtain ⟨i1, i2⟩ := ih (nextB all last to') (by omega)
      rw [boundsL_go c]
      refine ⟨List.pairwise_cons.2 ⟨fun x hx => ((i2 x).1 hx).2.1, i1⟩, fun x => ?_⟩
      rw [List.mem_cons, i2]
      constructor
      · rintro (rfl | ⟨a, b, c⟩)
        · exact ⟨h4.1, h4.2, c⟩
        · exact ⟨a, by omega, c⟩
      · rintro ⟨a, b, c⟩
        have := h3 x a b
        rcases Int.lt_or_eq_of_le this with h | h
        · exact .inr ⟨a, h, c⟩
        · exact .inl h.symm
    · rw [boundsL_stop c]
      refine ⟨.nil, fun x => ?_⟩
      simp
      intro a b
      have := h3 x a b
      omega
def endsF (l : List Period) (from' to' : Int) : List Int := from' :: to' :: l.flatMap fun p => [p.From, p.To]
def boundsF (l : List Period) (from' to' : Int) : List Int := boundsL (endsF l from' to') to' (from' - 1)
theorem bounds_spec (l : List Period) (f t : Int) : (boundsF l f t).Pairwise (· < ·) ∧ ∀ x, x ∈ boundsF l f t ↔ x ∈ endsF l f t ∧ f ≤ x ∧ x ≤ t := by
  obtain ⟨h1, h2⟩ := boundsL_spec (endsF l f t) t _ (f - 1) (Nat.le_refl _)
  exact ⟨h1, fun x => by rw [boundsF, h2]; exact and_congr Iff.rfl (by omega)⟩
/-- A rising list of numbers in a range is not longer than the range. -/
theorem rising_len {b : Int} : ∀ (l : List Int) (a : Int), l.Pairwise (· < ·) → (∀ x ∈ l, a ≤ x ∧ x ≤ b) → (l.length : Int) ≤ max 0 (b - a + 1)
  | [], a, _, _ => by simp; omega
  | x :: l, a, h, hr => by
    have h' := List.pairwise_cons.1 h
    have := rising_len (b := b) l (x + 1) h'.2 (fun y hy => ⟨by have := h'.1 y hy; omega, (hr y (List.mem_cons_of_mem _ hy)).2⟩)
    have := hr x List.mem_cons_self
    simp only [List.length_cons]
    omega
theorem bounds_len (l : List Period) (f t : Int) (hft : f ≤ t) : ((boundsF l f t).length : Int) ≤ t - f + 1 := by
  obtain ⟨h1, h2⟩ := bounds_spec l f t
  have := rising_len (b := t) (boundsF l f t) f h1 (fun x hx => ((h2 x).1 hx).2)
  omega
/-! ### The longest periods -/
def wStep (l : List Period) (busy : Bool) (acc : List Period) (x y : Int) : List Period :=
  if isBusy l x = busy then
    match acc with
    | [] => [⟨x, y⟩]
    | q :: r => if q.To = x then ⟨q.From, y⟩ :: r else ⟨x, y⟩ :: q :: r
  else acc
def wAt (l : List Period) (busy : Bool) (b : List Int) (k : Nat) : List Period :=
  (List.range k).foldl (fun acc j => wStep l busy acc (b.getD j 0) (b.getD (j + 1) 0)) []
def withinF (l : List Period) (from' to' : Int) (busy : Bool) : List Period :=
  (wAt l busy (boundsF l from' to') ((boundsF l from' to').length - 1)).reverse
theorem wAt_succ (l : List Period) (busy : Bool) (b : List Int) (k : Nat) : wAt l busy b (k + 1) = wStep l busy (wAt l busy b k) (b.getD k 0) (b.getD (k + 1) 0) := by
  simp only [wAt, List.range_succ, List.foldl_append, List.foldl_cons, List.foldl_nil]
theorem wStep_len (l : List Period) (busy : Bool) (acc : List Period) (x y : Int) : (wStep l busy acc x y).length ≤ acc.length + 1 := by
  unfold wStep
  split
  · split
    · simp
    · split <;> simp
  · omega
theorem wAt_len (l : List Period) (busy : Bool) (b : List Int) : ∀ k, (wAt l busy b k).length ≤ k
  | 0 => by simp [wAt]
  | k + 1 => by
    rw [wAt_succ]
    have := wAt_len l busy b k
    have := wStep_len l busy (wAt l busy b k) (b.getD k 0) (b.getD (k + 1) 0)
    omega
theorem within_fold {l : List Period} {b : List Int} (hb : b.Pairwise (· < ·)) (busy : Bool)
    (hcon : ∀ k, k + 1 < b.length → ∀ i, b.getD k 0 ≤ i → i < b.getD (k + 1) 0 → isBusy l i = isBusy l (b.getD k 0)) :
    ∀ k, k < b.length → Can (wAt l busy b k).reverse ∧ (∀ a ∈ wAt l busy b k, a.To ≤ b.getD k 0) ∧
      ∀ i, isBusy (wAt l busy b k) i = (decide (b.getD 0 0 ≤ i) && decide (i < b.getD k 0) && (isBusy l i == busy))
  | 0, _ => by
    refine ⟨Can.nil, by simp [wAt], fun i => ?_⟩
    simp [wAt, busy_nil]
    omega
  | k + 1, hk => by
    obtain ⟨h1, h2, h3⟩ := within_fold hb busy hcon k (by omega)
    have hlt : b.getD k 0 < b.getD (k + 1) 0 := by
      rw [List.pairwise_iff_getElem] at hb
      have := hb k (k + 1) (by omega) hk (by omega)
      simpa [List.getD_eq_getElem?_getD, List.getElem?_eq_getElem (show k < b.length by omega), List.getElem?_eq_getElem hk] using this
    have h0 : b.getD 0 0 ≤ b.getD k 0 := by
      rcases Nat.eq_zero_or_pos k with rfl | h
      · omega
      · rw [List.pairwise_iff_getElem] at hb
        have := hb 0 k (by omega) (by omega) h
        simp [List.getD_eq_getElem?_getD, List.getElem?_eq_getElem (show k < b.length by omega), List.getElem?_eq_getElem (show 0 < b.length by omega)]
        omega
    have hc := hcon k hk
    generalize hx : b.getD k 0 = x at *
    generalize hy : b.getD (k + 1) 0 = y at *
    generalize hz : b.getD 0 0 = z at *
    rw [wAt_succ, hx, hy]
    generalize wAt l busy b k = acc at *
    by_cases e : isBusy l x = busy
    · have hcov : ∀ i, (decide (z ≤ i) && decide (i < y) && (isBusy l i == busy)) = ((decide (z ≤ i) && decide (i < x) && (isBusy l i == busy)) || (decide (x ≤ i) && decide (i < y))) := by
        intro i
        by_cases c : x ≤ i ∧ i < y
        · have : isBusy l i = busy := (hc i c.1 c.2).trans e
          rw [this, Bool.eq_iff_iff]; simp; omega
        · cases (isBusy l i == busy) <;> (rw [Bool.eq_iff_iff]; simp; omega)
      cases acc with
      | nil =>
        have : wStep l busy [] x y = [⟨x, y⟩] := by simp [wStep, e]
        rw [this]
        refine ⟨by simpa using Can.one (p := ⟨x, y⟩) hlt, by simp, fun i => ?_⟩
        rw [hcov, ← h3, busy_cons]
        simp [busy_nil]
      | cons q r =>
        obtain ⟨c1, c2, c3⟩ := can_uncons h1
        by_cases g : q.To = x
        · have : wStep l busy (q :: r) x y = ⟨q.From, y⟩ :: r := by simp [wStep, e, g]
          rw [this]
          refine ⟨can_consR c1 (by simp; omega) c3, fun a ha => ?_, fun i => ?_⟩
          · rcases List.mem_cons.1 ha with rfl | ha
            · simp
            · have := h2 a (List.mem_cons_of_mem _ ha); omega
          · rw [hcov, ← h3, busy_cons, busy_cons]
            have : (decide (q.From ≤ i) && decide (i < y)) = ((decide (q.From ≤ i) && decide (i < q.To)) || (decide (x ≤ i) && decide (i < y))) := by
              rw [Bool.eq_iff_iff]; simp; omega
            simp only [this]
            cases (decide (q.From ≤ i) && decide (i < q.To)) <;> cases (decide (x ≤ i) && decide (i < y)) <;> cases isBusy r i <;> rfl
        · have hq := h2 q List.mem_cons_self
          have : wStep l busy (q :: r) x y = ⟨x, y⟩ :: q :: r := by simp [wStep, e, g]
          rw [this]
          refine ⟨can_consR h1 hlt (fun a ha => ?_), fun a ha => ?_, fun i => ?_⟩
          · rcases List.mem_cons.1 ha with rfl | ha
            · simp; omega
            · have := c3 a ha; simp; omega
          · rcases List.mem_cons.1 ha with rfl | ha
            · simp
            · have := h2 a ha; omega
          · rw [hcov, ← h3, busy_cons]
            cases isBusy (q :: r) i <;> simp
    · have : wStep l busy acc x y = acc := by simp [wStep, e]
      rw [this]
      refine ⟨h1, fun a ha => by have := h2 a ha; omega, fun i => ?_⟩
      rw [h3]
      by_cases c : x ≤ i ∧ i < y
      · have : (isBusy l i == busy) = false := by
          have := hc i c.1 c.2
          rw [this]; simpa using e
        rw [this]; simp
      · cases (isBusy l i == busy) <;> (rw [Bool.eq_iff_iff]; simp; try omega)
theorem getD_mem {b : List Int} {k : Nat} (h : k < b.length) : b.getD k 0 ∈ b := by
  rw [List.getD_eq_getElem?_getD, List.getElem?_eq_getElem h]; exact List.getElem_mem h
theorem getD_lt {b : List Int} (hb : b.Pairwise (· < ·)) {j k : Nat} (h : j < k) (hk : k < b.length) : b.getD j 0 < b.getD k 0 := by
  rw [List.pairwise_iff_getElem] at hb
  have := hb j k (by omega) hk h
  simpa [List.getD_eq_getElem?_getD, List.getElem?_eq_getElem (show j < b.length by omega), List.getElem?_eq_getElem hk] using this
theorem getD_of_mem {b : List Int} {x : Int} (h : x ∈ b) : ∃ k, k < b.length ∧ b.getD k 0 = x := by
  obtain ⟨k, hk, rfl⟩ := List.getElem_of_mem h
  exact ⟨k, hk, by rw [List.getD_eq_getElem?_getD, List.getElem?_eq_getElem hk]; rfl⟩
theorem no_between {b : List Int} (hb : b.Pairwise (· < ·)) {k : Nat} (hk : k + 1 < b.length) {x : Int} (hx : x ∈ b) : x ≤ b.getD k 0 ∨ b.getD (k + 1) 0 ≤ x := by
  obtain ⟨j, hj, rfl⟩ := getD_of_mem hx
  rcases Nat.lt_trichotomy j k with h | rfl | h
  · exact .inl (by have := getD_lt hb h (by omega); omega)
  · exact .inl (Int.le_refl _)
  · rcases Nat.lt_or_ge (k + 1) j with g | g
    · exact .inr (by have := getD_lt hb g hj; omega)
    · obtain rfl : j = k + 1 := by omega
      exact .inr (Int.le_refl _)
theorem within_spec (l : List Period) {f t : Int} (hft : f ≤ t) (busy : Bool) : Can (withinF l f t busy) ∧ ∀ i, isBusy (withinF l f t busy) i = (decide (f ≤ i) && decide (i < t) && (isBusy l i == busy)) := by
  obtain ⟨hb, hm⟩ := bounds_spec l f t
  have hf : f ∈ boundsF l f t := (hm f).2 ⟨by simp [endsF], by omega, hft⟩
  have ht : t ∈ boundsF l f t := (hm t).2 ⟨by simp [endsF], hft, by omega⟩
  have hl : 0 < (boundsF l f t).length := List.length_pos_of_mem hf
  have hcon : ∀ k, k + 1 < (boundsF l f t).length → ∀ i, (boundsF l f t).getD k 0 ≤ i → i < (boundsF l f t).getD (k + 1) 0 → isBusy l i = isBusy l ((boundsF l f t).getD k 0) := by
    intro k hk i h1 h2
    have hlo := (hm _).1 (getD_mem (show k < (boundsF l f t).length by omega))
    have hhi := (hm _).1 (getD_mem hk)
    have key : ∀ x, x ∈ endsF l f t → (x ≤ i ↔ x ≤ (boundsF l f t).getD k 0) := by
      intro x hx
      by_cases c : f ≤ x ∧ x ≤ t
      · rcases no_between hb hk ((hm x).2 ⟨hx, c⟩) with h | h <;> omega
      · omega
    rw [Bool.eq_iff_iff, busy_iff, busy_iff]
    have e1 : ∀ p ∈ l, p.From ∈ endsF l f t ∧ p.To ∈ endsF l f t := fun p hp => by
      simp only [endsF, List.mem_cons, List.mem_flatMap]
      exact ⟨.inr (.inr ⟨p, hp, by simp⟩), .inr (.inr ⟨p, hp, by simp⟩)⟩
    constructor
    · rintro ⟨p, hp, a, b⟩
      have := key _ (e1 p hp).1
      have := key _ (e1 p hp).2
      exact ⟨p, hp, by omega, by omega⟩
    · rintro ⟨p, hp, a, b⟩
      have := key _ (e1 p hp).1
      have := key _ (e1 p hp).2
      exact ⟨p, hp, by omega, by omega⟩
  obtain ⟨h1, _, h3⟩ := within_fold hb busy hcon ((boundsF l f t).length - 1) (by omega)
  have e0 : (boundsF l f t).getD 0 0 = f := by
    obtain ⟨k, hk, e⟩ := getD_of_mem hf
    have := ((hm _).1 (getD_mem hl)).2.1
    rcases Nat.eq_zero_or_pos k with rfl | h
    · exact e
    · have := getD_lt hb h hk; omega
  have e1 : (boundsF l f t).getD ((boundsF l f t).length - 1) 0 = t := by
    obtain ⟨k, hk, e⟩ := getD_of_mem ht
    have := ((hm _).1 (getD_mem (show (boundsF l f t).length - 1 < (boundsF l f t).length by omega))).2.2
    rcases Nat.lt_or_ge k ((boundsF l f t).length - 1) with h | h
    · have := getD_lt hb h (by omega); omega
    · obtain rfl : k = (boundsF l f t).length - 1 := by omega
      exact e
  exact ⟨h1, fun i => by rw [withinF, busy_rev, h3, e0, e1]⟩
theorem union_within {l : List Period} {f t : Int} (hu : Up l) (hft : f ≤ t) (hin : InB f t l) : unionF l = withinF l f t true := by
  obtain ⟨h1, h2⟩ := union_spec hu
  obtain ⟨h3, h4⟩ := within_spec l hft true
  refine can_ext h1 h3 (fun i => ?_)
  rw [h2, h4]
  cases hb : isBusy l i with
  | false => simp
  | true =>
    obtain ⟨p, hp, a, b⟩ := busy_iff.1 hb
    have := hin p hp
    simp; omega
theorem gaps_within {l : List Period} {f t n : Int} (hu : Up l) (hft : f ≤ t) (hn : 1 ≤ n) : gapsF l f t n = longF (withinF l f t false) n := by
  obtain ⟨h1, h2⟩ := gap_spec hu hft
  obtain ⟨h3, h4⟩ := within_spec l hft false
  rw [gaps_long hn, can_ext h1 h3 (fun i => by rw [h2, h4]; cases isBusy l i <;> rfl)]
end Go.Fw
