/- Freebusy: lists of periods in order that do not touch; what covers the same instants is the same list. No program. -/
import Derived.Test.YtpgnhajindbhlaaFbB
set_option linter.unusedSimpArgs false
set_option linter.unusedVariables false
namespace Go.Fw
/-- Periods that are not empty, in order, and do not touch. -/
def Can (l : List Period) : Prop := l.Pairwise (fun a b => a.To < b.From) ∧ ∀ p ∈ l, p.From < p.To
theorem busy_iff {l : List Period} {t : Int} : isBusy l t = true ↔ ∃ p ∈ l, p.From ≤ t ∧ t < p.To := by
  simp [isBusy, List.any_eq_true]
theorem busy_cons (p : Period) (l : List Period) (t : Int) : isBusy (p :: l) t = ((decide (p.From ≤ t) && decide (t < p.To)) || isBusy l t) := by
  simp [isBusy]
theorem busy_nil (t : Int) : isBusy [] t = false := rfl
theorem busy_app (a b : List Period) (t : Int) : isBusy (a ++ b) t = (isBusy a t || isBusy b t) := by
  simp [isBusy]
theorem busy_perm {a b : List Period} (h : a.Perm b) (t : Int) : isBusy a t = isBusy b t := by
  rw [Bool.eq_iff_iff, busy_iff, busy_iff]
  constructor
  · rintro ⟨p, hp, h1⟩; exact ⟨p, h.mem_iff.1 hp, h1⟩
  · rintro ⟨p, hp, h1⟩; exact ⟨p, h.mem_iff.2 hp, h1⟩
theorem busy_rev (a : List Period) (t : Int) : isBusy a.reverse t = isBusy a t := busy_perm (List.reverse_perm a) t
theorem Can.tail {p : Period} {l : List Period} (h : Can (p :: l)) : Can l := ⟨(List.pairwise_cons.1 h.1).2, fun q hq => h.2 q (List.mem_cons_of_mem _ hq)⟩
theorem Can.lt {p : Period} {l : List Period} (h : Can (p :: l)) {q : Period} (hq : q ∈ l) : p.To < q.From := (List.pairwise_cons.1 h.1).1 q hq
theorem Can.pos {p : Period} {l : List Period} (h : Can (p :: l)) : p.From < p.To := h.2 p List.mem_cons_self
theorem Can.nil : Can [] := ⟨.nil, by simp⟩
theorem Can.one {p : Period} (h : p.From < p.To) : Can [p] := ⟨List.pairwise_singleton _ _, by simpa using h⟩
theorem Can.snoc {l : List Period} {p : Period} (h : Can l) (hp : p.From < p.To) (hl : ∀ a ∈ l, a.To < p.From) : Can (l ++ [p]) := by
  refine ⟨List.pairwise_append.2 ⟨h.1, List.pairwise_singleton _ _, by simpa using hl⟩, ?_⟩
  intro q hq
  rcases List.mem_append.1 hq with hq | hq
  · exact h.2 q hq
  · simp at hq; subst hq; exact hp
theorem Can.left {a b : List Period} (h : Can (a ++ b)) : Can a := ⟨(List.pairwise_append.1 h.1).1, fun q hq => h.2 q (List.mem_append_left _ hq)⟩
/-- From the first period on, nothing before its start; nothing at its end. -/
theorem Can.ge {p : Period} {l : List Period} (h : Can (p :: l)) {t : Int} (hb : isBusy (p :: l) t = true) : p.From ≤ t := by
  obtain ⟨q, hq, h1, h2⟩ := busy_iff.1 hb
  rcases List.mem_cons.1 hq with rfl | hq
  · exact h1
  · have := h.lt hq; have := h.pos; omega
theorem Can.tail_gt {p : Period} {l : List Period} (h : Can (p :: l)) {t : Int} (hb : isBusy l t = true) : p.To < t := by
  obtain ⟨q, hq, h1, h2⟩ := busy_iff.1 hb
  have := h.lt hq; omega
theorem can_ext : ∀ {a b : List Period}, Can a → Can b → (∀ t, isBusy a t = isBusy b t) → a = b
  | [], [], _, _, _ => rfl
  | [], q :: b, _, hb, h => by
    have := h q.From
    rw [busy_nil, busy_cons] at this
    have := hb.pos
    simp_all
  | p :: a, [], ha, _, h => by
    have := h p.From
    rw [busy_nil, busy_cons] at this
    have := ha.pos
    simp_all
  | p :: a, q :: b, ha, hb, h => by
    have pa := ha.pos
    have pb := hb.pos
    have e1 : p.From = q.From := by
      have h1 : isBusy (p :: a) p.From = true := by rw [busy_cons]; simp [pa]
      have h2 : isBusy (q :: b) q.From = true := by rw [busy_cons]; simp [pb]
      have := hb.ge ((h _).symm.trans h1)
      have := ha.ge ((h _).trans h2)
      omega
    have key : ∀ {x y : Period} {u v : List Period}, Can (x :: u) → Can (y :: v) → x.From = y.From → (∀ t, isBusy (x :: u) t = isBusy (y :: v) t) → ¬ x.To < y.To := by
      intro x y u v hx hy hxy hh hlt
      have h1 : isBusy (y :: v) x.To = true := by
        have := hx.pos
        rw [busy_cons]; simp; left; omega
      have h2 : isBusy (x :: u) x.To = false := by
        rw [busy_cons]
        cases hu : isBusy u x.To with
        | false => simp
        | true => have := hx.tail_gt hu; omega
      rw [hh, h1] at h2
      cases h2
    have e2 : p.To = q.To := by
      have := key ha hb e1 h
      have := key hb ha e1.symm (fun t => (h t).symm)
      omega
    have e : p = q := by
      obtain ⟨_, _⟩ := p
      obtain ⟨_, _⟩ := q
      simp_all
    subst e
    rw [can_ext ha.tail hb.tail]
    intro t
    have ht := h t
    rw [busy_cons, busy_cons] at ht
    cases hc : (decide (p.From ≤ t) && decide (t < p.To)) with
    | false => simpa [hc] using ht
    | true =>
      simp only [Bool.and_eq_true, decide_eq_true_eq] at hc
      cases h1 : isBusy a t with
      | true => have := ha.tail_gt h1; omega
      | false =>
        cases h2 : isBusy b t with
        | true => have := hb.tail_gt h2; omega
        | false => rfl
/-! ### The order -/
def pLe (a b : Period) : Bool := decide (a.From < b.From) || (decide (a.From = b.From) && decide (a.To ≤ b.To))
def pIns (p : Period) : List Period → List Period
  | [] => [p]
  | q :: l => if pLe p q then p :: q :: l else q :: pIns p l
def pSort : List Period → List Period
  | [] => []
  | p :: l => pIns p (pSort l)
theorem pIns_perm (p : Period) : ∀ l, (pIns p l).Perm (p :: l)
  | [] => .refl _
  | q :: l => by
    unfold pIns
    split
    · exact .refl _
    · exact ((pIns_perm p l).cons q).trans (.swap p q l)
theorem pSort_perm : ∀ l, (pSort l).Perm l
  | [] => .refl _
  | p :: l => (pIns_perm p _).trans ((pSort_perm l).cons p)
theorem pLe_trans {a b c : Period} (h : pLe a b = true) (k : pLe b c = true) : pLe a c = true := by
  simp [pLe] at *; omega
theorem pLe_total (a b : Period) : pLe a b = true ∨ pLe b a = true := by
  simp [pLe]; omega
theorem pLe_anti {a b : Period} (h : pLe a b = true) (k : pLe b a = true) : a = b := by
  simp [pLe] at h k
  obtain ⟨_, _⟩ := a
  obtain ⟨_, _⟩ := b
  simp at *
  omega
def Srt (l : List Period) : Prop := l.Pairwise fun a b => pLe a b = true
theorem pIns_srt (p : Period) : ∀ {l}, Srt l → Srt (pIns p l)
  | [], _ => List.pairwise_singleton _ _
  | q :: l, h => by
    unfold pIns
    have h' := List.pairwise_cons.1 h
    split
    · rename_i e
      refine List.pairwise_cons.2 ⟨fun x hx => ?_, h⟩
      rcases List.mem_cons.1 hx with rfl | hx
      · exact e
      · exact pLe_trans e (h'.1 x hx)
    · rename_i e
      refine List.pairwise_cons.2 ⟨fun x hx => ?_, pIns_srt p h'.2⟩
      rcases List.mem_cons.1 ((pIns_perm p l).mem_iff.1 hx) with rfl | hx
      · exact (pLe_total q x).resolve_right e
      · exact h'.1 x hx
theorem pSort_srt : ∀ l, Srt (pSort l)
  | [] => .nil
  | p :: l => pIns_srt p (pSort_srt l)
theorem pSort_uniq {l s : List Period} (h : s.Perm l) (hs : Srt s) : s = pSort l :=
  List.Perm.eq_of_pairwise (le := fun a b => pLe a b = true) (fun a b _ _ h k => pLe_anti h k) hs (pSort_srt l) (h.trans (pSort_perm l).symm)
/-! ### The union -/
def uStep (acc : List Period) (p : Period) : List Period :=
  if p.From = p.To then acc else match acc with
    | [] => [p]
    | q :: r => if p.From ≤ q.To then ⟨q.From, max q.To p.To⟩ :: r else p :: q :: r
def unionF (l : List Period) : List Period := ((pSort l).foldl uStep []).reverse
def Up (l : List Period) : Prop := ∀ p ∈ l, p.From ≤ p.To
theorem can_consR {p : Period} {r : List Period} (h : Can r.reverse) (hp : p.From < p.To) (hl : ∀ a ∈ r, a.To < p.From) : Can (p :: r).reverse := by
  rw [List.reverse_cons]
  exact h.snoc hp (fun a ha => hl a (List.mem_reverse.1 ha))
theorem can_uncons {q : Period} {r : List Period} (h : Can (q :: r).reverse) : Can r.reverse ∧ q.From < q.To ∧ ∀ a ∈ r, a.To < q.From := by
  rw [List.reverse_cons] at h
  refine ⟨h.left, h.2 q (by simp), fun a ha => ?_⟩
  exact (List.pairwise_append.1 h.1).2.2 a (List.mem_reverse.2 ha) q (by simp)
theorem union_fold : ∀ (s acc : List Period), Srt s → Up s → Can acc.reverse → (∀ a ∈ acc, ∀ p ∈ s, a.From ≤ p.From) →
    Can (s.foldl uStep acc).reverse ∧ ∀ t, isBusy (s.foldl uStep acc) t = (isBusy acc t || isBusy s t)
  | [], acc, _, _, hc, _ => ⟨hc, fun t => by simp [busy_nil]⟩
  | p :: s, acc, hs, hu, hc, hle => by
    have hs' := List.pairwise_cons.1 hs
    have hu' : Up s := fun q hq => hu q (List.mem_cons_of_mem _ hq)
    have hp : p.From ≤ p.To := hu p List.mem_cons_self
    have hps : ∀ q ∈ s, p.From ≤ q.From := fun q hq => by
      have := hs'.1 q hq
      simp [pLe] at this
      omega
    have hle' : ∀ a ∈ acc, ∀ q ∈ s, a.From ≤ q.From := fun a ha q hq => hle a ha q (List.mem_cons_of_mem _ hq)
    rw [List.foldl_cons]
    by_cases e : p.From = p.To
    · have hst : uStep acc p = acc := by simp [uStep, e]
      rw [hst]
      obtain ⟨h1, h2⟩ := union_fold s acc hs'.2 hu' hc hle'
      refine ⟨h1, fun t => ?_⟩
      rw [h2, busy_cons]
      have : (decide (p.From ≤ t) && decide (t < p.To)) = false := by
        rw [Bool.eq_false_iff]; simp; omega
      rw [this, Bool.false_or]
    · cases acc with
      | nil =>
        have hst : uStep [] p = [p] := by simp [uStep, e]
        rw [hst]
        obtain ⟨h1, h2⟩ := union_fold s [p] hs'.2 hu' (by simpa using Can.one (by omega)) (by simpa using hps)
        refine ⟨h1, fun t => ?_⟩
        rw [h2, busy_cons, busy_cons, busy_nil]
        simp
      | cons q r =>
        obtain ⟨c1, c2, c3⟩ := can_uncons hc
        have hqp : q.From ≤ p.From := hle q List.mem_cons_self p List.mem_cons_self
        by_cases g : p.From ≤ q.To
        · have hst : uStep (q :: r) p = ⟨q.From, max q.To p.To⟩ :: r := by simp [uStep, e, g]
          rw [hst]
          obtain ⟨h1, h2⟩ := union_fold s (⟨q.From, max q.To p.To⟩ :: r) hs'.2 hu' (can_consR c1 (by simp; omega) c3) (by
            intro a ha x hx
            rcases List.mem_cons.1 ha with rfl | ha
            · exact hle' q List.mem_cons_self x hx
            · exact hle' a (List.mem_cons_of_mem _ ha) x hx)
          refine ⟨h1, fun t => ?_⟩
          rw [h2, busy_cons, busy_cons, busy_cons]
          have : (decide (q.From ≤ t) && decide (t < max q.To p.To)) = ((decide (q.From ≤ t) && decide (t < q.To)) || (decide (p.From ≤ t) && decide (t < p.To))) := by
            rw [Bool.eq_iff_iff]; simp; omega
          simp only [this]
          cases (decide (q.From ≤ t) && decide (t < q.To)) <;> cases (decide (p.From ≤ t) && decide (t < p.To)) <;> cases isBusy r t <;> rfl
        · have hst : uStep (q :: r) p = p :: q :: r := by simp [uStep, e, g]
          rw [hst]
          obtain ⟨h1, h2⟩ := union_fold s (p :: q :: r) hs'.2 hu' (can_consR hc (by omega) (by
            intro a ha
            rcases List.mem_cons.1 ha with rfl | ha
            · omega
            · have := c3 a ha; omega)) (by
            intro a ha x hx
            rcases List.mem_cons.1 ha with rfl | ha
            · exact hps x hx
            · exact hle' a ha x hx)
          refine ⟨h1, fun t => ?_⟩
          rw [h2, busy_cons, busy_cons p s]
          cases isBusy (q :: r) t <;> cases (decide (p.From ≤ t) && decide (t < p.To)) <;> cases isBusy s t <;> rfl
theorem union_spec {l : List Period} (hu : Up l) : Can (unionF l) ∧ ∀ t, isBusy (unionF l) t = isBusy l t := by
  have hu' : Up (pSort l) := fun p hp => hu p ((pSort_perm l).mem_iff.1 hp)
  obtain ⟨h1, h2⟩ := union_fold (pSort l) [] (pSort_srt l) hu' Can.nil (by simp)
  exact ⟨h1, fun t => by rw [unionF, busy_rev, h2, busy_nil, Bool.false_or, busy_perm (pSort_perm l)]⟩
theorem uStep_len (acc : List Period) (p : Period) : (uStep acc p).length ≤ acc.length + 1 := by
  unfold uStep
  split
  · omega
  · split
    · simp
    · split <;> simp
theorem uFold_len : ∀ (s acc : List Period), (s.foldl uStep acc).length ≤ acc.length + s.length
  | [], acc => by simp
  | p :: s, acc => by
    have := uFold_len s (uStep acc p)
    have := uStep_len acc p
    simp only [List.foldl_cons, List.length_cons]
    omega
theorem pSort_len (l : List Period) : (pSort l).length = l.length := (pSort_perm l).length_eq
theorem union_len (l : List Period) : (unionF l).length ≤ l.length := by
  have := uFold_len (pSort l) []
  simp only [unionF, List.length_reverse, pSort_len, List.length_nil] at *
  omega
/-- The ends of a union are ends of the periods. -/
def InB (a b : Int) (l : List Period) : Prop := ∀ p ∈ l, a ≤ p.From ∧ p.To ≤ b
theorem uFold_in {a b : Int} : ∀ (s acc : List Period), InB a b s → InB a b acc → InB a b (s.foldl uStep acc)
  | [], acc, _, h => h
  | p :: s, acc, hs, h => by
    refine uFold_in s _ (fun q hq => hs q (List.mem_cons_of_mem _ hq)) ?_
    have hp := hs p List.mem_cons_self
    unfold uStep
    split
    · exact h
    · split
      · intro q hq; simp at hq; subst hq; exact hp
      · rename_i q r
        have hq := h q List.mem_cons_self
        split
        · intro x hx
          rcases List.mem_cons.1 hx with rfl | hx
          · simp; omega
          · exact h x (List.mem_cons_of_mem _ hx)
        · intro x hx
          rcases List.mem_cons.1 hx with rfl | hx
          · exact hp
          · exact h x hx
theorem union_in {a b : Int} {l : List Period} (h : InB a b l) : InB a b (unionF l) := by
  intro p hp
  rw [unionF, List.mem_reverse] at hp
  exact uFold_in (pSort l) [] (fun q hq => h q ((pSort_perm l).mem_iff.1 hq)) (by intro q hq; simp at hq) p hp
theorem union_self {l : List Period} (h : Can l) : unionF l = l := by
  have hu : Up l := fun p hp => by have := h.2 p hp; omega
  exact can_ext (union_spec hu).1 h (union_spec hu).2
theorem union_perm {l s : List Period} (h : s.Perm l) : unionF s = unionF l := by
  unfold unionF
  rw [pSort_uniq (l := l) ((pSort_perm s).trans h) (pSort_srt s)]
end Go.Fw
