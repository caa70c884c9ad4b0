/- What actions lead to, action by action; what stays as it is when they are repeated. -/
import Derived.Test.YtdnacfnmaieeiaaPureApplyBase
import Derived.Laws.BitsLemmas
set_option linter.unusedSimpArgs false
set_option linter.unusedVariables false
namespace Go.Proofs.Ytdnacfnmaieeiaa.Print
open Go.RowKit Go.Proofs.YtdnacfnmaieeiaaW.PrintWords Go.Proofs.YtdnacfnmaieeiaaO.Opn Go.Proofs.YtdnacfnmaieeiaaO.Kit

structure St where
  b : List ByteArray
  a : List ByteArray
  r : List ByteArray
  p : List ByteArray
  f : Int
/-- One action: a fault's code, or 0 and what there is then. -/
def one (x : S35) (s : St) : Int × St :=
  if (x.f1.size : Int) > 4000 then (1, s)
  else if x.f0 = 1 then (0, { s with b := addT s.b inbox })
  else if x.f0 = 2 then (0, { s with b := addT s.b x.f1 })
  else if x.f0 = 3 then (0, s)
  else if x.f0 = 4 then (0, { s with a := addT s.a x.f1 })
  else if x.f0 = 5 then (0, { s with r := addT s.r x.f1 })
  else if x.f0 = 6 then (if x.f2 < 0 then (3, s) else if x.f2 > 63 then (3, s) else (0, { s with f := orI s.f x.f2 }))
  else if x.f0 = 7 then (0, { s with p := addT s.p x.f1 })
  else (4, s)
def effsS (l : List S35) (i : Int) (s : St) : Eff := effs l i s.b s.a s.r s.p s.f
theorem effsS_nil (i : Int) (s : St) : effsS [] i s = (s.b, s.a, s.r, s.p, s.f, 0, 0) := rfl
theorem effsS_cons (x : S35) (l : List S35) (i : Int) (s : St) : effsS (x :: l) i s = if (one x s).1 = 0 then effsS l (i + 1) (one x s).2 else bad (one x s).1 i := by
  simp only [effsS, effs, one]
  by_cases c0 : (x.f1.size : Int) > 4000
  · simp [c0]
  by_cases c1 : x.f0 = 1
  · simp [c0, c1]
  by_cases c2 : x.f0 = 2
  · simp [c0, c2]
  by_cases c3 : x.f0 = 3
  · simp [c0, c3]
  by_cases c4 : x.f0 = 4
  · simp [c0, c4]
  by_cases c5 : x.f0 = 5
  · simp [c0, c5]
  by_cases c6 : x.f0 = 6
  · by_cases d1 : x.f2 < 0
    · simp [c0, c6, d1]
    by_cases d2 : x.f2 > 63
    · simp [c0, c6, d1, d2]
    simp [c0, c6, d1, d2]
  by_cases c7 : x.f0 = 7
  · simp [c0, c7]
  simp [c0, c1, c2, c3, c4, c5, c6, c7]
/-! flags -/
theorem or_nat (f n : Int) (hf : 0 ≤ f) (hf1 : f < 64) (hn : 0 ≤ n) (hn1 : n < 64) : orI f n = ((f.toNat ||| n.toNat : Nat) : Int) := by
  have h := (bits_nat .i64 6 (by decide) (fun m h0 h1 => by rw [IntKind.wrap_i64]; omega) f.toNat n.toNat (by omega) (by omega)).2
  unfold orI
  rw [← h]
  congr 1 <;> omega
theorem or_range (f n : Int) (hf : 0 ≤ f) (hf1 : f < 64) (hn : 0 ≤ n) (hn1 : n < 64) : 0 ≤ orI f n ∧ orI f n < 64 := by
  rw [or_nat f n hf hf1 hn hn1]
  have : f.toNat ||| n.toNat < 2 ^ 6 := Nat.or_lt_two_pow (by omega) (by omega)
  omega
/-- The action changes nothing any more. -/
def Kept (x : S35) (s : St) : Prop := one x s = (0, s)
theorem addT_mem {l : List ByteArray} {t : ByteArray} : addT l t = l ↔ t ∈ l := by
  unfold addT
  by_cases h : hasT l t = true
  · rw [if_pos h]
    simpa using hasT_iff.1 h
  · rw [if_neg h]
    constructor
    · intro e
      have := congrArg List.length e
      simp at this
    · intro e
      exact absurd (hasT_iff.2 e) h
theorem mem_addT {l : List ByteArray} {t u : ByteArray} : u ∈ addT l t ↔ u ∈ l ∨ u = t := by
  unfold addT
  by_cases h : hasT l t = true
  · rw [if_pos h]
    constructor
    · exact Or.inl
    · rintro (h' | rfl)
      · exact h'
      · exact hasT_iff.1 h
  · rw [if_neg h]
    simp
/-- What the action asks of what there is, so that it changes nothing. -/
def Asks (x : S35) (s : St) : Prop :=
  (x.f1.size : Int) ≤ 4000 ∧ ((x.f0 = 1 ∧ inbox ∈ s.b) ∨ (x.f0 = 2 ∧ x.f1 ∈ s.b) ∨ x.f0 = 3 ∨ (x.f0 = 4 ∧ x.f1 ∈ s.a) ∨ (x.f0 = 5 ∧ x.f1 ∈ s.r) ∨ (x.f0 = 6 ∧ 0 ≤ x.f2 ∧ x.f2 ≤ 63 ∧ orI s.f x.f2 = s.f) ∨ (x.f0 = 7 ∧ x.f1 ∈ s.p))
theorem kept_of_asks {x : S35} {s : St} (h : Asks x s) : one x s = (0, s) := by
  obtain ⟨h0, h⟩ := h
  unfold one
  have c0 : ¬ (x.f1.size : Int) > 4000 := by omega
  rcases h with ⟨c, h⟩ | ⟨c, h⟩ | c | ⟨c, h⟩ | ⟨c, h⟩ | ⟨c, h1, h2, h⟩ | ⟨c, h⟩
  · simp [c0, c, addT_mem.2 h]
  · simp [c0, c, addT_mem.2 h]
  · simp [c0, c]
  · simp [c0, c, addT_mem.2 h]
  · simp [c0, c, addT_mem.2 h]
  · simp [c0, c, h, show ¬ x.f2 < 0 by omega, show ¬ 63 < x.f2 by omega]
  · simp [c0, c, addT_mem.2 h]
/-- s' holds what s holds. -/
structure Le (s s' : St) : Prop where
  b : ∀ t, t ∈ s.b → t ∈ s'.b
  a : ∀ t, t ∈ s.a → t ∈ s'.a
  r : ∀ t, t ∈ s.r → t ∈ s'.r
  p : ∀ t, t ∈ s.p → t ∈ s'.p
  f : ∀ n, 0 ≤ n → n ≤ 63 → orI s.f n = s.f → orI s'.f n = s'.f
theorem Le.refl (s : St) : Le s s := ⟨fun _ h => h, fun _ h => h, fun _ h => h, fun _ h => h, fun _ _ _ h => h⟩
theorem Le.trans {s t u : St} (h : Le s t) (k : Le t u) : Le s u := ⟨fun x hx => k.b x (h.b x hx), fun x hx => k.a x (h.a x hx), fun x hx => k.r x (h.r x hx), fun x hx => k.p x (h.p x hx), fun n a b hx => k.f n a b (h.f n a b hx)⟩
theorem Asks.mono {x : S35} {s t : St} (h : Asks x s) (k : Le s t) : Asks x t := by
  obtain ⟨h0, h⟩ := h
  refine ⟨h0, ?_⟩
  rcases h with ⟨c, h⟩ | ⟨c, h⟩ | c | ⟨c, h⟩ | ⟨c, h⟩ | ⟨c, h1, h2, h⟩ | ⟨c, h⟩
  · exact .inl ⟨c, k.b _ h⟩
  · exact .inr (.inl ⟨c, k.b _ h⟩)
  · exact .inr (.inr (.inl c))
  · exact .inr (.inr (.inr (.inl ⟨c, k.a _ h⟩)))
  · exact .inr (.inr (.inr (.inr (.inl ⟨c, k.r _ h⟩))))
  · exact .inr (.inr (.inr (.inr (.inr (.inl ⟨c, h1, h2, k.f _ h1 h2 h⟩)))))
  · exact .inr (.inr (.inr (.inr (.inr (.inr ⟨c, k.p _ h⟩)))))
/-- One action that is no fault. -/
theorem one_ok {x : S35} {s : St} (hf : 0 ≤ s.f) (hf1 : s.f < 64) (h : (one x s).1 = 0) : Le s (one x s).2 ∧ Asks x (one x s).2 ∧ 0 ≤ (one x s).2.f ∧ (one x s).2.f < 64 ∧ (s.b.Nodup → (one x s).2.b.Nodup) := by
  have nd : ∀ t, s.b.Nodup → (addT s.b t).Nodup := by
    intro t hn
    unfold addT
    by_cases h : hasT s.b t = true
    · rwa [if_pos h]
    · rw [if_neg h, List.nodup_append]
      refine ⟨hn, by simp, ?_⟩
      intro a ha b hb e
      rw [List.mem_singleton] at hb
      subst hb
      subst e
      exact h (hasT_iff.2 ha)
  unfold one at h ⊢
  by_cases c0 : (x.f1.size : Int) > 4000
  · simp [c0] at h
  by_cases c1 : x.f0 = 1
  · simp only [c0, c1, if_false, if_true]
    exact ⟨⟨fun t ht => mem_addT.2 (.inl ht), fun _ h => h, fun _ h => h, fun _ h => h, fun _ _ _ h => h⟩, ⟨by omega, .inl ⟨c1, mem_addT.2 (.inr rfl)⟩⟩, hf, hf1, nd _⟩
  by_cases c2 : x.f0 = 2
  · simp only [c0, c1, c2, if_false, if_true]
    exact ⟨⟨fun t ht => mem_addT.2 (.inl ht), fun _ h => h, fun _ h => h, fun _ h => h, fun _ _ _ h => h⟩, ⟨by omega, .inr (.inl ⟨c2, mem_addT.2 (.inr rfl)⟩)⟩, hf, hf1, nd _⟩
  by_cases c3 : x.f0 = 3
  · simp only [c0, c1, c2, c3, if_false, if_true]
    exact ⟨Le.refl _, ⟨by omega, .inr (.inr (.inl c3))⟩, hf, hf1, fun h => h⟩
  by_cases c4 : x.f0 = 4
  · simp only [c0, c1, c2, c3, c4, if_false, if_true]
    exact ⟨⟨fun _ h => h, fun t ht => mem_addT.2 (.inl ht), fun _ h => h, fun _ h => h, fun _ _ _ h => h⟩, ⟨by omega, .inr (.inr (.inr (.inl ⟨c4, mem_addT.2 (.inr rfl)⟩)))⟩, hf, hf1, fun h => h⟩
  by_cases c5 : x.f0 = 5
  · simp only [c0, c1, c2, c3, c4, c5, if_false, if_true]
    exact ⟨⟨fun _ h => h, fun _ h => h, fun t ht => mem_addT.2 (.inl ht), fun _ h => h, fun _ _ _ h => h⟩, ⟨by omega, .inr (.inr (.inr (.inr (.inl ⟨c5, mem_addT.2 (.inr rfl)⟩))))⟩, hf, hf1, fun h => h⟩
  by_cases c6 : x.f0 = 6
  · simp only [c0, c1, c2, c3, c4, c5, c6, if_false, if_true] at h ⊢
    by_cases d1 : x.f2 < 0
    · simp [d1] at h
    by_cases d2 : x.f2 > 63
    · simp [d1, d2] at h
    simp only [d1, d2, if_false]
    have hr := or_range s.f x.f2 hf hf1 (by omega) (by omega)
    have e1 := or_nat s.f x.f2 hf hf1 (by omega) (by omega)
    refine ⟨⟨fun _ h => h, fun _ h => h, fun _ h => h, fun _ h => h, fun n h0 h1 hh => ?_⟩, ⟨by omega, .inr (.inr (.inr (.inr (.inr (.inl ⟨c6, by omega, by omega, ?_⟩)))))⟩, hr.1, hr.2, fun h => h⟩
    · rw [or_nat s.f n hf hf1 h0 (by omega)] at hh
      show orI (orI s.f x.f2) n = orI s.f x.f2
      rw [or_nat _ n hr.1 hr.2 h0 (by omega), e1]
      congr 1
      rw [Int.toNat_natCast]
      have e2 : s.f.toNat ||| n.toNat = s.f.toNat := by omega
      rw [Nat.or_assoc, Nat.or_comm x.f2.toNat, ← Nat.or_assoc, e2]
    · show orI (orI s.f x.f2) x.f2 = orI s.f x.f2
      rw [or_nat _ x.f2 hr.1 hr.2 (by omega) (by omega), e1]
      congr 1
      rw [Int.toNat_natCast, Nat.or_assoc, Nat.or_self]
  by_cases c7 : x.f0 = 7
  · simp only [c0, c1, c2, c3, c4, c5, c6, c7, if_false, if_true]
    exact ⟨⟨fun _ h => h, fun _ h => h, fun _ h => h, fun t ht => mem_addT.2 (.inl ht), fun _ _ _ h => h⟩, ⟨by omega, .inr (.inr (.inr (.inr (.inr (.inr ⟨c7, mem_addT.2 (.inr rfl)⟩)))))⟩, hf, hf1, fun h => h⟩
  · simp [c0, c1, c2, c3, c4, c5, c6, c7] at h
/-- Either a fault, which further actions don't turn; or each action is in what there is then. -/
theorem effsS_cases : ∀ (l : List S35) (i : Int) (s : St), 0 ≤ s.f → s.f < 64 → s.b.Nodup →
    (∃ c j, c ≠ 0 ∧ ∀ m, effsS (l ++ m) i s = bad c j) ∨
    ∃ s' : St, (∀ m, effsS (l ++ m) i s = effsS m (i + l.length) s') ∧ Le s s' ∧ (∀ x ∈ l, Asks x s') ∧ 0 ≤ s'.f ∧ s'.f < 64 ∧ s'.b.Nodup := by
  intro l
  induction l with
  | nil =>
    intro i s hf hf1 hn
    exact .inr ⟨s, fun m => by simp, Le.refl s, (fun x hx => by cases hx), hf, hf1, hn⟩
  | cons x l ih =>
    intro i s hf hf1 hn
    by_cases h : (one x s).1 = 0
    · obtain ⟨h1, h2, h3, h4, h5⟩ := one_ok hf hf1 h
      rcases ih (i + 1) (one x s).2 h3 h4 (h5 hn) with ⟨c, j, hc, hm⟩ | ⟨s', hm, k1, k2, k3, k4, k5⟩
      · exact .inl ⟨c, j, hc, fun m => by rw [List.cons_append, effsS_cons, if_pos h, hm]⟩
      · refine .inr ⟨s', fun m => ?_, h1.trans k1, ?_, k3, k4, k5⟩
        · rw [List.cons_append, effsS_cons, if_pos h, hm]
          congr 1
          simp only [List.length_cons]
          omega
        · intro y hy
          rcases List.mem_cons.1 hy with rfl | hy
          · exact h2.mono k1
          · exact k2 y hy
    · exact .inl ⟨(one x s).1, i, h, fun m => by rw [List.cons_append, effsS_cons, if_neg h]⟩
/-- Actions that ask for nothing new change nothing. -/
theorem effsS_kept : ∀ (l : List S35) (i : Int) (s : St), (∀ x ∈ l, Asks x s) → effsS l i s = (s.b, s.a, s.r, s.p, s.f, 0, 0) := by
  intro l
  induction l with
  | nil => intro i s _; rfl
  | cons x l ih =>
    intro i s h
    have e := kept_of_asks (h x List.mem_cons_self)
    rw [effsS_cons, e, if_pos rfl]
    exact ih (i + 1) s (fun y hy => h y (List.mem_cons_of_mem _ hy))
theorem effects_cases (l : List S35) (hl : (l.length : Int) ≤ 300) :
    (∃ c j, c ≠ 0 ∧ effects l = bad c j ∧ ∀ m, (l ++ m).length ≤ 300 → effects (l ++ m) = bad c j) ∨
    ∃ s' : St, effects l = (s'.b, s'.a, s'.r, s'.p, s'.f, 0, 0) ∧ (∀ m, (l ++ m).length ≤ 300 → effects (l ++ m) = effsS m (0 + l.length) s') ∧ (∀ x ∈ l, Asks x s') ∧ s'.b.Nodup := by
  have e : ∀ m : List S35, m.length ≤ 300 → effects m = effsS m 0 ⟨[], [], [], [], 0⟩ := fun m hm => by
    unfold effects
    rw [if_neg (by omega)]
    rfl
  rcases effsS_cases l 0 ⟨[], [], [], [], 0⟩ (by decide) (by decide) List.nodup_nil with ⟨c, j, hc, hm⟩ | ⟨s', hm, _, k2, _, _, k5⟩
  · refine .inl ⟨c, j, hc, ?_, fun m h => ?_⟩
    · rw [e l (by omega)]
      simpa using hm []
    · rw [e _ h, hm]
  · refine .inr ⟨s', ?_, fun m h => ?_, k2, k5⟩
    · rw [e l (by omega)]
      simpa [effsS_nil] using hm []
    · rw [e _ h, hm]
end Go.Proofs.Ytdnacfnmaieeiaa.Print
