/- Meeting: the rounds of accepting. -/
import Derived.Test.YtpgnhajindbhlaaMtP
set_option linter.unusedSimpArgs false
set_option linter.unusedVariables false
namespace Go.Fw
open Go Go.Proofs Go.Proofs.Ytpgnhajindbhlaa.Ty
section
variable {m : Meeting} {p : Period} {f : Nat}
theorem nk_fault (hz : faultM m = ⟨0, 0⟩) (hm : ieq m.Round 1000000 = false) (hp : propB p.From p.To = true) (k : Nat) : faultM (nk m p f k) = ⟨0, 0⟩ := by
  have hr := fault_round hz
  simp only [inB, Bool.and_eq_true, decide_eq_true_eq] at hr
  simp only [ieq, decide_eq_false_iff_not] at hm
  refine fault_like hz rfl (gk_adr _ _ _) ⟨?_, ?_⟩ hp fun g hg => ?_
  · simp only [nk]; omega
  · simp only [nk]; omega
  · obtain ⟨i, hi, rfl⟩ := List.getElem_of_mem hg
    have hi' : i < m.Guests.length := by simpa [nk, gk] using hi
    rw [show (nk m p f k).Guests[i] = (gk m.Guests f k)[i]'(by rw [gk_len]; exact hi') from rfl, gk_at _ _ _ _ hi']
    refine ⟨?_, rfl⟩
    dsimp only
    split
    · exact .inr rfl
    · exact .inl rfl
theorem nk_agree (hz : faultM m = ⟨0, 0⟩) (hm : ieq m.Round 1000000 = false) (hp : propB p.From p.To = true) (hf : f < m.Guests.length) {k : Nat} (hk : k < m.Guests.length) : agreedM (nk m p f k) = (false, ⟨0, 0⟩) := by
  rw [agreed_eq (nk_fault hz hm hp k)]
  have hl : (nk m p f k).Guests.length = m.Guests.length := gk_len _ _ _
  have hn := nth_lt hf hk
  have : ((nk m p f k).Guests.all fun g => ieq g.Answer 1) = false := by
    rw [List.all_eq_false]
    refine ⟨(gk m.Guests f k)[nth m.Guests.length f k]'(by rw [gk_len]; exact hn), List.getElem_mem _, ?_⟩
    rw [gk_at _ _ _ _ hn, acc_not hf hk]
    simp [ieq]
  unfold allAcc
  rw [List.take_length, this]
  simp
theorem nk_all (hz : faultM m = ⟨0, 0⟩) (hm : ieq m.Round 1000000 = false) (hc : m.Cancelled = false) (hp : propB p.From p.To = true) (hf : f < m.Guests.length) : agreedM (nk m p f m.Guests.length) = (true, ⟨0, 0⟩) := by
  rw [agreed_eq (nk_fault hz hm hp _)]
  have hr := fault_round hz
  simp only [inB, Bool.and_eq_true, decide_eq_true_eq] at hr
  have : ((nk m p f m.Guests.length).Guests.all fun g => ieq g.Answer 1) = true := by
    rw [List.all_eq_true]
    intro g hg
    obtain ⟨i, hi, rfl⟩ := List.getElem_of_mem hg
    have hi' : i < m.Guests.length := by simpa [nk, gk] using hi
    rw [show (nk m p f m.Guests.length).Guests[i] = (gk m.Guests f m.Guests.length)[i]'(by rw [gk_len]; exact hi') from rfl, gk_at _ _ _ _ hi', acc_all hf hi']
    rfl
  unfold allAcc
  rw [List.take_length, this]
  have h0 : 0 < (nk m p f m.Guests.length).Round := by simp only [nk]; omega
  have h1 : (nk m p f m.Guests.length).Cancelled = false := hc
  simp [h0, h1]
theorem nk_answer (hz : faultM m = ⟨0, 0⟩) (hm : ieq m.Round 1000000 = false) (hc : m.Cancelled = false) (hp : propB p.From p.To = true) (hf : f < m.Guests.length) {k : Nat} (hk : k < m.Guests.length) (q : Period) :
    answerM (nk m p f k) (m.Guests[nth m.Guests.length f k]'(nth_lt hf hk)).Address 1 q = (nk m p f (k + 1), ⟨0, 0⟩) := by
  have hr := fault_round hz
  simp only [inB, Bool.and_eq_true, decide_eq_true_eq] at hr
  have hn := nth_lt hf hk
  have hg : guestAt (nk m p f k).Guests (m.Guests[nth m.Guests.length f k]'hn).Address = (nth m.Guests.length f k : Nat) := by
    rw [guestAt_adr (l := (nk m p f k).Guests) (l' := m.Guests) (gk_adr _ _ _), guestAt_self hz hn]
  have hr0 : ieq (nk m p f k).Round 0 = false := by
    show decide (m.Round + 1 = 0) = false
    exact decide_eq_false (by omega)
  have hcc : (nk m p f k).Cancelled = false := hc
  unfold answerM
  rw [nk_fault hz hm hp k, hg, hr0, hcc]
  have h1 : ¬ ((nth m.Guests.length f k : Nat) : Int) < 0 := by omega
  simp only [ieq_self, h1, Bool.and_self, Bool.not_true, Bool.or_self, Bool.false_eq_true, if_false, decide_false, Int.toNat_natCast]
  have h2 : (decide ((1 : Int) < 1) || decide ((3 : Int) < 1)) = false := by decide
  have h3 : ieq 1 3 = false := by decide
  simp only [h2, h3, Bool.false_and, Bool.false_eq_true, if_false, cond_false]
  have := gk_succ hf hk
  simp only [nk, this, hc]
theorem nk_zero : proposedM m p = nk m p f 0 := by
  unfold proposedM nk
  rw [gk_zero]
theorem nk_again (hz : faultM m = ⟨0, 0⟩) (hm : ieq m.Round 1000000 = false) (hc : m.Cancelled = false) (hp : propB p.From p.To = true) (k : Nat) (q : Period) :
    proposeM (nk m p f k) q = if ieq (m.Round + 1) 1000000 then (zM, ⟨8, -4⟩) else if !propB q.From q.To then (zM, ⟨3, -5⟩) else (proposedM (nk m p f k) q, ⟨0, 0⟩) := by
  rw [propose_eq q (nk_fault hz hm hp k)]
  have hcc : (nk m p f k).Cancelled = false := hc
  rw [hcc]
  rfl
end
theorem prop_not {m : Meeting} {q : Period} (hz : faultM m = ⟨0, 0⟩) (hm : ieq m.Round 1000000 = false) (hq : propB q.From q.To = true) (hl : 0 < m.Guests.length) : agreedM (proposedM m q) = (false, ⟨0, 0⟩) := by
  rw [nk_zero (f := 0)]
  exact nk_agree hz hm hq hl hl
end Go.Fw
