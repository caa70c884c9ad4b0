/- Meeting: the guests accept one after the other. -/
import Derived.Test.YtpgnhajindbhlaaMtN
set_option linter.unusedSimpArgs false
set_option linter.unusedVariables false
namespace Go.Fw
open Go Go.Proofs Go.Proofs.Ytpgnhajindbhlaa.Ty
def acc (n f k j : Nat) : Bool := decide ((if f ≤ j then j - f else j + n - f) < k)
def nth (n f k : Nat) : Nat := if f + k < n then f + k else f + k - n
theorem nth_mod {n f k : Nat} (hf : f < n) (hk : k < n) : (f + k) % n = nth n f k := by
  unfold nth
  split
  · exact Nat.mod_eq_of_lt (by assumption)
  · rw [Nat.mod_eq_sub_mod (by omega), Nat.mod_eq_of_lt (by omega)]
theorem nth_lt {n f k : Nat} (hf : f < n) (hk : k < n) : nth n f k < n := by
  unfold nth
  split <;> omega
theorem acc_nth {n f k : Nat} (hf : f < n) (hk : k < n) : acc n f (k + 1) (nth n f k) = true := by
  unfold acc nth
  rw [decide_eq_true_eq]
  split <;> split <;> omega
theorem acc_ne {n f k j : Nat} (hf : f < n) (hk : k < n) (hj : j < n) (h : j ≠ nth n f k) : acc n f (k + 1) j = acc n f k j := by
  unfold nth at h
  unfold acc
  congr 1
  apply propext
  split at h <;> split <;> omega
theorem acc_zero (n f j : Nat) : acc n f 0 j = false := by simp [acc]
theorem acc_all {n f j : Nat} (hf : f < n) (hj : j < n) : acc n f n j = true := by
  unfold acc
  rw [decide_eq_true_eq]
  split <;> omega
theorem acc_not {n f k : Nat} (hf : f < n) (hk : k < n) : acc n f k (nth n f k) = false := by
  unfold acc nth
  rw [decide_eq_false_iff_not]
  split <;> split <;> omega
def gk (l : List Attendee) (f k : Nat) : List Attendee := l.mapIdx fun j g => ⟨g.Address, if acc l.length f k j = true then 1 else 0, ⟨0, 0⟩⟩
def nk (m : Meeting) (p : Period) (f k : Nat) : Meeting := { m with Guests := gk m.Guests f k, Round := m.Round + 1, Proposed := p }
theorem gk_len (l : List Attendee) (f k : Nat) : (gk l f k).length = l.length := by simp [gk]
theorem gk_at (l : List Attendee) (f k j : Nat) (h : j < l.length) : (gk l f k)[j]'(by rw [gk_len]; exact h) = ⟨l[j].Address, if acc l.length f k j = true then 1 else 0, ⟨0, 0⟩⟩ := by simp [gk]
theorem gk_zero (l : List Attendee) (f : Nat) : gk l f 0 = l.map fresh := by
  apply List.ext_getElem
  · simp [gk]
  · intro i h1 h2
    rw [gk_at _ _ _ _ (by simpa [gk] using h1)]
    simp [acc_zero, fresh]
theorem gk_adr (l : List Attendee) (f k : Nat) : (gk l f k).map (·.Address) = l.map (·.Address) := by
  apply List.ext_getElem
  · simp [gk]
  · intro i h1 h2
    simp [gk]
theorem gk_succ {l : List Attendee} {f k : Nat} (hf : f < l.length) (hk : k < l.length) : (gk l f k).set (nth l.length f k) ⟨(l[nth l.length f k]'(nth_lt hf hk)).Address, 1, ⟨0, 0⟩⟩ = gk l f (k + 1) := by
  apply List.ext_getElem
  · simp [gk]
  · intro i h1 h2
    have hi : i < l.length := by rw [gk_len] at h2; exact h2
    rw [List.getElem_set, gk_at _ _ _ _ hi]
    split
    · rename_i e
      subst e
      rw [gk_at _ _ _ _ hi, acc_nth hf hk]
      rfl
    · rename_i e
      rw [gk_at _ _ _ _ hi, acc_ne hf hk hi (fun h => e h.symm)]
theorem guestAt_adr {l l' : List Attendee} (h : l.map (·.Address) = l'.map (·.Address)) (a : ByteArray) : guestAt l a = guestAt l' a := by
  have e : ∀ l : List Attendee, l.findIdx? (fun g => seqB g.Address a) = (l.map (·.Address)).findIdx? (fun s => seqB s a) := fun l => by
    rw [List.findIdx?_map]; rfl
  unfold guestAt
  rw [e, e, h]
theorem guestAt_self {m : Meeting} (h : faultM m = ⟨0, 0⟩) {i : Nat} (hi : i < m.Guests.length) : guestAt m.Guests m.Guests[i].Address = i := by
  refine guestAt_found hi (seqB_self _) fun j g hj hg => ?_
  have h3 := (guest_none h hi).2.2
  cases hs : seqB g.Address m.Guests[i].Address with
  | false => rfl
  | true =>
    have hgt : decide (0 ≤ guestAt (m.Guests.take i) m.Guests[i].Address) = true := by
      rw [guestAt_any, List.any_eq_true]
      refine ⟨g, ?_, hs⟩
      have hjl : j < m.Guests.length := by omega
      rw [List.getElem?_eq_getElem hjl] at hg
      simp only [Option.some.injEq] at hg
      subst hg
      rw [List.mem_take_iff_getElem]
      exact ⟨j, by omega, rfl⟩
    rw [decide_eq_true_eq] at hgt
    omega
theorem fault_like {m m' : Meeting} (h : faultM m = ⟨0, 0⟩) (ho : m'.Organizer = m.Organizer) (ha : m'.Guests.map (·.Address) = m.Guests.map (·.Address)) (hr : 1 ≤ m'.Round ∧ m'.Round ≤ 1000000) (hp : propB m'.Proposed.From m'.Proposed.To = true)
    (hg : ∀ g ∈ m'.Guests, (g.Answer = 0 ∨ g.Answer = 1) ∧ g.Offer = ⟨0, 0⟩) : faultM m' = ⟨0, 0⟩ := by
  have hlen : m'.Guests.length = m.Guests.length := by simpa using congrArg List.length ha
  have h1 : inB (m.Organizer.size : Int) 1 4000 = true := by
    unfold faultM at h
    split at h
    · cases h
    · simp_all
  have h2 : inB (m.Guests.length : Int) 1 30 = true := by
    unfold faultM at h
    split at h
    · cases h
    split at h
    · cases h
    · simp_all
  have h3 : inB m'.Round 0 1000000 = true := by
    unfold inB
    simp
    omega
  have h4 : prM m' = false := by
    unfold prM
    have : ieq m'.Round 0 = false := by unfold ieq; simp; omega
    simp [hp, this]
  rw [faultM_in (by rw [ho, h1]; rfl) (by rw [hlen, h2]; rfl) (by rw [h3]; rfl) h4]
  refine firstF_none fun i hi => ?_
  have hi' : i < m.Guests.length := by omega
  have hadr : m'.Guests[i].Address = m.Guests[i].Address := by
    have := congrArg (fun l => l[i]?) ha
    simpa [hi, hi'] using this
  obtain ⟨g1, g2, g3⟩ := guest_none h hi'
  obtain ⟨hans, hoff⟩ := hg _ (List.getElem_mem hi)
  have hsz : inB (m.Guests[i].Address.size : Int) 1 4000 = true := by
    unfold guestF at g1
    split at g1
    · cases g1
    · simp_all
  have hr0 : ieq m'.Round 0 = false := by unfold ieq; simp; omega
  have hgf : guestF m'.Guests[i].Address m'.Guests[i].Answer m'.Guests[i].Offer.From m'.Guests[i].Offer.To m'.Round = 0 := by
    unfold guestF
    rw [hadr, hoff, hsz, hr0]
    rcases hans with e | e <;> rw [e] <;> rfl
  have htk : (m'.Guests.take i).map (·.Address) = (m.Guests.take i).map (·.Address) := by
    rw [List.map_take, List.map_take, ha]
  have hga : decide (0 ≤ guestAt (m'.Guests.take i) m.Guests[i].Address) = false := by
    rw [guestAt_adr htk, decide_eq_false_iff_not]
    omega
  rw [faultAt_eq m' hi, hgf, hadr, ho, g2, hga]
  rfl
end Go.Fw
