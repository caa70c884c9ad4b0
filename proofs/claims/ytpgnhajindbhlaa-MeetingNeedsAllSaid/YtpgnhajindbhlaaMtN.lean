/- Meeting: what it means that a meeting has no fault. -/
import Derived.Test.YtpgnhajindbhlaaMtL
set_option linter.unusedSimpArgs false
set_option linter.unusedVariables false
namespace Go.Fw
open Go Go.Proofs Go.Proofs.Ytpgnhajindbhlaa.Ty
theorem faultAt_code {m : Meeting} {i : Nat} {r : Fault} (h1 : faultAt m i = some r) : ieq r.Code 0 = false := by
  unfold faultAt at h1
  split at h1
  · cases h1
  · rename_i g _
    cases c : ieq (guestF g.Address g.Answer g.Offer.From g.Offer.To m.Round) 0 with
    | false =>
      rw [c] at h1
      simp only [Bool.not_false, cond_true, Option.some.injEq] at h1
      subst h1
      exact c
    | true =>
      rw [c] at h1
      simp only [Bool.not_true, cond_false] at h1
      cases c2 : (seqB g.Address m.Organizer || decide (0 ≤ guestAt (m.Guests.take i) g.Address)) with
      | false => rw [c2] at h1; cases h1
      | true =>
        rw [c2] at h1
        simp only [cond_true, Option.some.injEq] at h1
        subst h1
        simp [ieq]
theorem fault_none {m : Meeting} (h : faultM m = ⟨0, 0⟩) : ∀ i, i < m.Guests.length → faultAt m i = none := by
  intro i hi
  have h2 : firstF m.Guests.length (faultAt m) ⟨0, 0⟩ = ⟨0, 0⟩ := by
    unfold faultM at h
    split at h
    · cases h
    split at h
    · cases h
    split at h
    · cases h
    split at h
    · cases h
    exact h
  unfold firstF at h2
  cases hs : (List.range m.Guests.length).findSome? (faultAt m) with
  | none =>
    rw [List.findSome?_eq_none_iff] at hs
    exact hs i (List.mem_range.2 hi)
  | some r =>
    rw [hs] at h2
    simp only [Option.getD_some] at h2
    obtain ⟨j, _, hj⟩ := List.exists_of_findSome?_eq_some hs
    have := faultAt_code hj
    rw [h2] at this
    cases this
theorem guest_none {m : Meeting} (h : faultM m = ⟨0, 0⟩) {i : Nat} (hi : i < m.Guests.length) :
    guestF m.Guests[i].Address m.Guests[i].Answer m.Guests[i].Offer.From m.Guests[i].Offer.To m.Round = 0 ∧ seqB m.Guests[i].Address m.Organizer = false ∧ guestAt (m.Guests.take i) m.Guests[i].Address < 0 := by
  have := fault_none h i hi
  rw [faultAt_eq m hi] at this
  cases c : ieq (guestF m.Guests[i].Address m.Guests[i].Answer m.Guests[i].Offer.From m.Guests[i].Offer.To m.Round) 0 with
  | false => rw [c] at this; cases this
  | true =>
    rw [c] at this
    simp only [Bool.not_true, cond_false] at this
    cases c2 : (seqB m.Guests[i].Address m.Organizer || decide (0 ≤ guestAt (m.Guests.take i) m.Guests[i].Address)) with
    | true => rw [c2] at this; cases this
    | false =>
      simp only [Bool.or_eq_false_iff, decide_eq_false_iff_not, Int.not_le] at c2
      exact ⟨of_decide_eq_true c, c2.1, c2.2⟩
theorem guest_offer {m : Meeting} (h : faultM m = ⟨0, 0⟩) {i : Nat} (hi : i < m.Guests.length) (h3 : m.Guests[i].Answer = 3) : propB m.Guests[i].Offer.From m.Guests[i].Offer.To = true := by
  have := (guest_none h hi).1
  unfold guestF at this
  split at this
  · cases this
  split at this
  · cases this
  split at this
  · cases this
  · rename_i h4
    rw [h3] at h4
    simp [ieq] at h4
    exact h4.2
end Go.Fw
