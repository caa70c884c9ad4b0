/- Meeting: what the results of the calls are, case by case. -/
import Derived.Test.YtpgnhajindbhlaaMtI
set_option linter.unusedSimpArgs false
set_option linter.unusedVariables false
namespace Go.Fw
open Go Go.Proofs Go.Proofs.Ytpgnhajindbhlaa.Ty
theorem firstF_pick {α : Type} (n : Nat) (f : Nat → Option α) (d : α) : firstF n f d = d ∨ ∃ i r, f i = some r ∧ firstF n f d = r := by
  unfold firstF
  cases h : (List.range n).findSome? f with
  | none => exact .inl rfl
  | some r =>
    obtain ⟨i, _, hi⟩ := List.exists_of_findSome?_eq_some h
    exact .inr ⟨i, r, hi, rfl⟩
theorem fault_zero {m : Meeting} (h : ieq (faultM m).Code 0 = true) : faultM m = ⟨0, 0⟩ := by
  revert h
  unfold faultM
  split
  · simp [ieq]
  split
  · simp [ieq]
  split
  · simp [ieq]
  split
  · simp [ieq]
  rcases firstF_pick m.Guests.length (faultAt m) ⟨0, 0⟩ with e | ⟨i, r, h1, e⟩
  · intro _; exact e
  · rw [e]
    unfold faultAt at h1
    split at h1
    · cases h1
    · rename_i g _
      cases c : ieq (guestF g.Address g.Answer g.Offer.From g.Offer.To m.Round) 0 with
      | false =>
        rw [c] at h1
        simp only [Bool.not_false, cond_true, Option.some.injEq] at h1
        subst h1
        intro h
        rw [h] at c; cases c
      | true =>
        rw [c] at h1
        simp only [Bool.not_true, cond_false] at h1
        cases c2 : (seqB g.Address m.Organizer || decide (0 ≤ guestAt (m.Guests.take i) g.Address)) with
        | false => rw [c2] at h1; cases h1
        | true =>
          rw [c2] at h1
          simp only [cond_true, Option.some.injEq] at h1
          subst h1
          simp [ieq]
def allAcc (m : Meeting) (k : Nat) : Bool := decide (0 < m.Round) && !m.Cancelled && (m.Guests.take k).all (fun g => ieq g.Answer 1)
theorem agreed_eq {m : Meeting} (h : faultM m = ⟨0, 0⟩) : agreedM m = (allAcc m m.Guests.length, ⟨0, 0⟩) := by
  unfold agreedM allAcc
  rw [h, List.take_length]
  have : (!m.Guests.any fun g => !ieq g.Answer 1) = m.Guests.all fun g => ieq g.Answer 1 := by
    rw [List.not_any_eq_all_not]
    simp
  simp [ieq_self, this]
theorem allAcc_succ {m : Meeting} {k : Nat} (h : k < m.Guests.length) : allAcc m (k + 1) = (allAcc m k && ieq m.Guests[k].Answer 1) := by
  unfold allAcc
  rw [take_succ h, List.all_append]
  simp [Bool.and_assoc]
theorem answer_len (m : Meeting) (who : ByteArray) (n : Int) (p : Period) : (answerM m who n p).1.Guests.length ≤ m.Guests.length := by
  unfold answerM
  repeat' split
  all_goals simp [zM]
def wantM (m : Meeting) (who : ByteArray) (n : Int) (p : Period) : Meeting := { m with Guests := m.Guests.set (guestAt m.Guests who).toNat ⟨who, n, p⟩, Cancelled := false }
theorem in13 (n : Int) : inB n 1 3 = !(decide (n < 1) || decide (3 < n)) := by
  unfold inB
  by_cases h1 : n < 1 <;> by_cases h2 : 3 < n <;> simp [h1, h2] <;> omega
theorem ans_eq {m : Meeting} {who : ByteArray} (n : Int) (p : Period) (h : faultM m = ⟨0, 0⟩) (h4 : ¬ guestAt m.Guests who < 0) : answerM m who n p =
    if m.Cancelled || ieq m.Round 0 then (zM, ⟨8, -4⟩) else if !inB n 1 3 then (zM, ⟨3, -6⟩) else if ieq n 3 && !propB p.From p.To then (zM, ⟨3, -7⟩)
    else (wantM m who n (bif ieq n 3 then p else ⟨0, 0⟩), ⟨0, 0⟩) := by
  unfold answerM wantM
  rw [h, ← validB_eq, in13, decide_eq_false h4]
  cases h5 : m.Cancelled <;> simp [ieq_self]
theorem fault_round {m : Meeting} (h : faultM m = ⟨0, 0⟩) : inB m.Round 0 1000000 = true := by
  unfold faultM at h
  split at h
  · cases h
  split at h
  · cases h
  split at h
  · cases h
  · simp_all
theorem propose_bad {m : Meeting} {p : Period} (h : ieq (faultM m).Code 0 = false) : proposeM m p = (zM, faultM m) := by
  unfold proposeM zM
  simp [h]
theorem cancel_bad {m : Meeting} (h : ieq (faultM m).Code 0 = false) : cancelM m = (zM, faultM m) := by
  unfold cancelM
  simp [h]
theorem agreed_bad {m : Meeting} (h : ieq (faultM m).Code 0 = false) : agreedM m = (false, faultM m) := by
  unfold agreedM
  simp [h]
theorem answer_bad {m : Meeting} (who : ByteArray) (n : Int) (p : Period) (h : ieq (faultM m).Code 0 = false) : answerM m who n p = (zM, faultM m) := by
  unfold answerM
  simp [h]
theorem propose_eq {m : Meeting} (p : Period) (h : faultM m = ⟨0, 0⟩) : proposeM m p = if m.Cancelled || ieq m.Round 1000000 then (zM, ⟨8, -4⟩) else if !propB p.From p.To then (zM, ⟨3, -5⟩) else (proposedM m p, ⟨0, 0⟩) := by
  unfold proposeM zM
  rw [h, validB_eq]
  simp [ieq_self]
theorem cancel_eq {m : Meeting} (h : faultM m = ⟨0, 0⟩) : cancelM m = if m.Cancelled then (zM, ⟨8, -4⟩) else ({ m with Cancelled := true }, ⟨0, 0⟩) := by
  unfold cancelM
  rw [h]
  simp [ieq_self]
end Go.Fw
