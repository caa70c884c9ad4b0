/- Meeting: the check of a meeting. -/
import Derived.Test.YtpgnhajindbhlaaMtB
import Derived.Test.YtpgnhajindbhlaaMtE
import Derived.Test.YtpgnhajindbhlaaMtF
set_option linter.unusedSimpArgs false
set_option linter.unusedVariables false
set_option maxRecDepth 20000
set_option maxHeartbeats 4000000
namespace Go.Fw
open Go Go.Proofs Go.Proofs.Ytpgnhajindbhlaa.Ty
theorem lev_ne {l lev : Nat} (h : l < lev) : (l == lev) = false := by simp; omega
theorem sameGuest_c (lev l t : Nat) (H : Hp) (x g : Attendee) (hl : l < lev) (hH : H l t = .box (g.d.cells.map .d)) :
    ACalls Try.prog 52 [.d x.d, .ptr l t 0] lev H (fun r H' => r = .d (.v (.bool (seqB x.Address g.Address))) ∧ H' = H) := by
  simp only [Attendee.d, DVal.cells, List.map_cons, List.map_nil] at hH
  refine acalls_w Try.func52 rfl (by kernel_rfl) (by simp [Try.ntmps52]) (fun hdead hbel => ?_)
  repeat' (first | (refine awp_seq_n fun N => ?_) | ((first | refine awp_reg ?_ | refine awp_skip ?_ | refine awp_ret ?_); (simp only [go_sem, ↓reduceIte, Nat.reduceBEq, Nat.reduceLT, Nat.reduceLeDiff, Nat.reduceAdd, Nat.reduceSub, Nat.reduceMul, Nat.reduceEqDiff, Int.reduceLT, Int.reduceLE, Int.reduceAdd, Int.reduceSub, Int.reduceToNat, reduceCtorEq, Try.ntmps52, Try.results52, lev_ne hl, hH, cut_dead lev H hdead, decide_eq_true hl])) | (refine goN _ ?_) | fail)
theorem validB_eq (f t : Int) : validB f t = propB f t := by
  unfold validB propB inB
  by_cases h : f < t
  · by_cases h1 : -68719476736 ≤ f <;> by_cases h2 : t ≤ 68719476736 <;> simp [h, h1, h2] <;> omega
  · simp [h]
theorem checkG_eq (a : ByteArray) (n f t r : Int) : checkG r a n f t = guestF a n f t r := by
  unfold checkG guestF addrB
  rw [validB_eq]
  have e1 : (!(decide (1 ≤ (a.size : Int)) && decide ((a.size : Int) ≤ 4000))) = !inB (a.size : Int) 1 4000 := rfl
  have e2 : (decide (n < 0) || decide (3 < n)) = !inB n 0 3 := by
    unfold inB
    by_cases h1 : n < 0 <;> by_cases h2 : 3 < n <;> simp [h1, h2] <;> omega
  rw [e1, e2]
  have e3 : ((!ieq n 0) && ieq r 0 || !(beqB (ieq n 3) (propB f t)) || (!(ieq n 3) && !(ieq f 0 && ieq t 0))) = ((ieq r 0 && !ieq n 0) || (ieq n 3 && !propB f t) || (!ieq n 3 && (!ieq f 0 || !ieq t 0))) := by
    have hp : ieq f 0 = true → ieq t 0 = true → propB f t = false := fun h1 h2 => by
      simp only [ieq, decide_eq_true_eq] at h1 h2
      subst h1 h2
      rfl
    cases h1 : ieq n 0 <;> cases h2 : ieq r 0 <;> cases h3 : ieq n 3 <;> cases h4 : propB f t <;> cases h5 : ieq f 0 <;> cases h6 : ieq t 0 <;> simp_all [beqB]
  rw [e3]
theorem guestAt_any (gs : List Attendee) (a : ByteArray) : decide (0 ≤ guestAt gs a) = gs.any (fun g => seqB g.Address a) := by
  unfold guestAt
  cases h : gs.findIdx? (fun g => seqB g.Address a) with
  | none =>
    rw [List.findIdx?_eq_none_iff] at h
    have : gs.any (fun g => seqB g.Address a) = false := by
      rw [List.any_eq_false]
      intro x hx
      simpa using h x hx
    rw [this]; rfl
  | some i =>
    rw [List.findIdx?_eq_some_iff_getElem] at h
    obtain ⟨h1, h2, _⟩ := h
    have : gs.any (fun g => seqB g.Address a) = true := by
      rw [List.any_eq_true]
      exact ⟨_, List.getElem_mem h1, h2⟩
    rw [this]
    simp
def attP (a : ByteArray) : DVal → Bool
  | .agg (.v (.string s) :: _) => seqB s a
  | _ => false
theorem any_att (gs : List Attendee) (a : ByteArray) : (gs.map Attendee.d).any (attP a) = gs.any (fun g => seqB g.Address a) := by
  rw [List.any_map]
  rfl
theorem att_sz (gs : List Attendee) : ∀ x ∈ gs.map Attendee.d, x.cells.length = 4 ∧ x = .agg x.cells := fun x hx => by
  obtain ⟨g, _, rfl⟩ := List.mem_map.1 hx
  exact ⟨rfl, rfl⟩
theorem guests_in (n : Nat) : inB (n : Int) 1 30 = (!ieq n 0 && !decide (30 < (n : Int))) := by
  unfold inB ieq
  rw [Bool.eq_iff_iff]
  simp only [Bool.and_eq_true, decide_eq_true_eq, Bool.not_eq_true', decide_eq_false_iff_not]
  omega
theorem round_in (r : Int) : inB r 0 1000000 = (!decide (r < 0) && !decide (1000000 < r)) := by
  unfold inB
  by_cases h1 : r < 0 <;> by_cases h2 : 1000000 < r <;> simp [h1, h2] <;> omega
theorem addr_in (s : ByteArray) : inB (s.size : Int) 1 4000 = addrB s := rfl
theorem sameGuest_all (gs : List Attendee) (lev l t : Nat) (H : Hp) (g : Attendee) (hl : l < lev) (hH : H l t = .box (g.d.cells.map .d)) :
    ∀ x ∈ gs.map Attendee.d, ACalls Try.prog 52 (.d x :: [.ptr l t 0]) lev H (fun r H' => r = .d (.v (.bool (attP g.Address x))) ∧ H' = H) := fun x hx => by
  obtain ⟨y, _, rfl⟩ := List.mem_map.1 hx
  exact sameGuest_c lev l t H y g hl hH
theorem validate_c (m : Meeting) (hb : m.Guests.length < 9223372036854775807) : PCalls Try.prog 26 [m.d] (.d (faultM m).d) := by
  refine pcalls_of_awp Try.func26 rfl (by kernel_rfl) (by simp [Try.ntmps26]) ?_
  repeat' (first | (apply awp_seq_at 9 [1, 2] [1, 2] (addrB m.Organizer = true ∧ inB (m.Guests.length : Int) 1 30 = true ∧ inB m.Round 0 1000000 = true ∧ prM m = false); exact rfl) | (refine awp_seq_n fun N => ?_) | ((first | refine awp_reg ?_ | refine awp_exit ?_ | refine awp_skip ?_ | refine awp_ret ?_ | refine callOk_data (addressed_c ..) (by (simp only [go_sem, ↓reduceIte, Nat.reduceBEq, Nat.reduceLT, Nat.reduceLeDiff, Nat.reduceAdd, Nat.reduceSub, Nat.reduceMul, Nat.reduceEqDiff, Int.reduceLT, Int.reduceLE, Int.reduceAdd, Int.reduceSub, Int.reduceToNat, reduceCtorEq, Try.ntmps26, Try.results26]) <;> rfl) ?_ | refine callOk_data (valid_c ..) (by (simp only [go_sem, ↓reduceIte, Nat.reduceBEq, Nat.reduceLT, Nat.reduceLeDiff, Nat.reduceAdd, Nat.reduceSub, Nat.reduceMul, Nat.reduceEqDiff, Int.reduceLT, Int.reduceLE, Int.reduceAdd, Int.reduceSub, Int.reduceToNat, reduceCtorEq, Try.ntmps26, Try.results26]) <;> rfl) ?_); (simp only [go_sem, ↓reduceIte, Nat.reduceBEq, Nat.reduceLT, Nat.reduceLeDiff, Nat.reduceAdd, Nat.reduceSub, Nat.reduceMul, Nat.reduceEqDiff, Int.reduceLT, Int.reduceLE, Int.reduceAdd, Int.reduceSub, Int.reduceToNat, reduceCtorEq, Try.ntmps26, Try.results26])) | ((first | refine aGo_splitN (fun hif => ?_) (fun hif => ?_) | refine aGo_split (fun hif => ?_) (fun hif => ?_)) <;> (simp only [go_sem, ↓reduceIte, Nat.reduceBEq, Nat.reduceLT, Nat.reduceLeDiff, Nat.reduceAdd, Nat.reduceSub, Nat.reduceMul, Nat.reduceEqDiff, Int.reduceLT, Int.reduceLE, Int.reduceAdd, Int.reduceSub, Int.reduceToNat, reduceCtorEq, hif, Try.ntmps26, Try.results26])) | (refine awp_block ?_) | (first | refine awp_condT (by (simp only [go_sem, ↓reduceIte, Nat.reduceBEq, Nat.reduceLT, Nat.reduceLeDiff, Nat.reduceAdd, Nat.reduceSub, Nat.reduceMul, Nat.reduceEqDiff, Int.reduceLT, Int.reduceLE, Int.reduceAdd, Int.reduceSub, Int.reduceToNat, reduceCtorEq, Try.ntmps26, Try.results26]); rfl) (by first | rfl | assumption) ?_ | refine awp_condF (by (simp only [go_sem, ↓reduceIte, Nat.reduceBEq, Nat.reduceLT, Nat.reduceLeDiff, Nat.reduceAdd, Nat.reduceSub, Nat.reduceMul, Nat.reduceEqDiff, Int.reduceLT, Int.reduceLE, Int.reduceAdd, Int.reduceSub, Int.reduceToNat, reduceCtorEq, Try.ntmps26, Try.results26]); rfl) (by first | rfl | assumption) ?_) | (refine awp_cond (by (simp only [go_sem, ↓reduceIte, Nat.reduceBEq, Nat.reduceLT, Nat.reduceLeDiff, Nat.reduceAdd, Nat.reduceSub, Nat.reduceMul, Nat.reduceEqDiff, Int.reduceLT, Int.reduceLE, Int.reduceAdd, Int.reduceSub, Int.reduceToNat, reduceCtorEq, Try.ntmps26, Try.results26]); rfl) (fun hcd => ?_) (fun hcd => ?_) <;> (try (exact Bool.noConfusion hcd))) | (first | (refine goN_at 9 [1, 2] [1, 2] _ rfl ?_; (simp only [go_sem, ↓reduceIte, Nat.reduceBEq, Nat.reduceLT, Nat.reduceLeDiff, Nat.reduceAdd, Nat.reduceSub, Nat.reduceMul, Nat.reduceEqDiff, Int.reduceLT, Int.reduceLE, Int.reduceAdd, Int.reduceSub, Int.reduceToNat, reduceCtorEq])) | (refine goN_at 15 [1, 2, 3, 4, 57, 58, 59] [1, 2, 4] _ rfl ?_; (simp only [go_sem, ↓reduceIte, Nat.reduceBEq, Nat.reduceLT, Nat.reduceLeDiff, Nat.reduceAdd, Nat.reduceSub, Nat.reduceMul, Nat.reduceEqDiff, Int.reduceLT, Int.reduceLE, Int.reduceAdd, Int.reduceSub, Int.reduceToNat, reduceCtorEq])) | (refine goN_at 17 [1, 2, 57, 58, 59] [1, 2, 4] _ rfl ?_; (simp only [go_sem, ↓reduceIte, Nat.reduceBEq, Nat.reduceLT, Nat.reduceLeDiff, Nat.reduceAdd, Nat.reduceSub, Nat.reduceMul, Nat.reduceEqDiff, Int.reduceLT, Int.reduceLE, Int.reduceAdd, Int.reduceSub, Int.reduceToNat, reduceCtorEq])) | refine goN _ ?_) | (refine fct fun hR => ?_) | (refine mrg ?_) | fail)
  case k =>
    obtain ⟨h1, h2, h3, h4⟩ := hR
    have hin : faultM m = firstF m.Guests.length (faultAt m) ⟨0, 0⟩ := faultM_in (by rw [show inB (m.Organizer.size : Int) 1 4000 = true from h1]; rfl) (by rw [h2]; rfl) (by rw [h3]; rfl) h4
    refine awp_loopU [1, 2, 57, 58, 59] [1, 2] (fun k : Nat => [(59, .d (.v (.int .i64 k)))]) (fun _ => []) (fun k => k ≤ m.Guests.length ∧ ∀ j, j < k → faultAt m j = none) (fun k => m.Guests.length - k) 0 (by simp only [go_sem, ↓reduceIte, Nat.reduceBEq, Nat.reduceLT, Nat.reduceLeDiff, Nat.reduceAdd, Nat.reduceSub, Nat.reduceMul, Nat.reduceEqDiff, Int.reduceLT, Int.reduceLE, Int.reduceAdd, Int.reduceSub, Int.reduceToNat, reduceCtorEq]; rfl) (by simp only [go_sem, ↓reduceIte, Nat.reduceBEq, Nat.reduceLT, Nat.reduceLeDiff, Nat.reduceAdd, Nat.reduceSub, Nat.reduceMul, Nat.reduceEqDiff, Int.reduceLT, Int.reduceLE, Int.reduceAdd, Int.reduceSub, Int.reduceToNat, reduceCtorEq]; rfl) ⟨by simp, by simp⟩ ?_
    rintro k ⟨hk, hne⟩
    by_cases hlt : k < m.Guests.length
    · repeat' (first | (refine awp_seq_n fun N => ?_) | ((first | refine awp_reg ?_ | refine awp_exit ?_ | refine awp_skip ?_ | refine awp_ret ?_ | refine callOk_data (checkGuest_c ..) (by (simp only [go_sem, ↓reduceIte, Nat.reduceBEq, Nat.reduceLT, Nat.reduceLeDiff, Nat.reduceAdd, Nat.reduceSub, Nat.reduceMul, Nat.reduceEqDiff, Int.reduceLT, Int.reduceLE, Int.reduceAdd, Int.reduceSub, Int.reduceToNat, reduceCtorEq, hlt, hk, map_at hlt, Try.results26]) <;> rfl) ?_ | (refine callOk_raw ((containsAtt_c _ _ _ _ ((m.Guests.take k).map Attendee.d) (attP m.Guests[k].Address) (by simp; omega) (att_sz _) (sameGuest_all _ _ 0 4 _ m.Guests[k] (Nat.succ_pos _) (by (simp only [go_sem, ↓reduceIte, Nat.reduceBEq, Nat.reduceLT, Nat.reduceLeDiff, Nat.reduceAdd, Nat.reduceSub, Nat.reduceMul, Nat.reduceEqDiff, Int.reduceLT, Int.reduceLE, Int.reduceAdd, Int.reduceSub, Int.reduceToNat, reduceCtorEq]))))) ?_; rintro r H' ⟨hr1, hr2⟩; rw [hr1, hr2]; clear hr1 hr2)); (simp only [go_sem, ↓reduceIte, Nat.reduceBEq, Nat.reduceLT, Nat.reduceLeDiff, Nat.reduceAdd, Nat.reduceSub, Nat.reduceMul, Nat.reduceEqDiff, Int.reduceLT, Int.reduceLE, Int.reduceAdd, Int.reduceSub, Int.reduceToNat, reduceCtorEq, hlt, hk, map_at hlt, Try.results26])) | ((first | refine aGo_splitN (fun hif => ?_) (fun hif => ?_) | refine aGo_split (fun hif => ?_) (fun hif => ?_)) <;> (simp only [go_sem, ↓reduceIte, Nat.reduceBEq, Nat.reduceLT, Nat.reduceLeDiff, Nat.reduceAdd, Nat.reduceSub, Nat.reduceMul, Nat.reduceEqDiff, Int.reduceLT, Int.reduceLE, Int.reduceAdd, Int.reduceSub, Int.reduceToNat, reduceCtorEq, hif, hlt, hk, map_at hlt, Try.results26])) | (refine awp_block ?_) | (first | refine awp_condT (by (simp only [go_sem, ↓reduceIte, Nat.reduceBEq, Nat.reduceLT, Nat.reduceLeDiff, Nat.reduceAdd, Nat.reduceSub, Nat.reduceMul, Nat.reduceEqDiff, Int.reduceLT, Int.reduceLE, Int.reduceAdd, Int.reduceSub, Int.reduceToNat, reduceCtorEq, hlt, hk, map_at hlt, Try.results26]); rfl) (by first | rfl | assumption) ?_ | refine awp_condF (by (simp only [go_sem, ↓reduceIte, Nat.reduceBEq, Nat.reduceLT, Nat.reduceLeDiff, Nat.reduceAdd, Nat.reduceSub, Nat.reduceMul, Nat.reduceEqDiff, Int.reduceLT, Int.reduceLE, Int.reduceAdd, Int.reduceSub, Int.reduceToNat, reduceCtorEq, hlt, hk, map_at hlt, Try.results26]); rfl) (by first | rfl | assumption) ?_) | (refine awp_cond (by (simp only [go_sem, ↓reduceIte, Nat.reduceBEq, Nat.reduceLT, Nat.reduceLeDiff, Nat.reduceAdd, Nat.reduceSub, Nat.reduceMul, Nat.reduceEqDiff, Int.reduceLT, Int.reduceLE, Int.reduceAdd, Int.reduceSub, Int.reduceToNat, reduceCtorEq, hlt, hk, map_at hlt, Try.results26]); rfl) (fun hcd => ?_) (fun hcd => ?_) <;> (try (exact Bool.noConfusion hcd))) | (first | (refine goN_at 9 [1, 2] [1, 2] _ rfl ?_; (simp only [go_sem, ↓reduceIte, Nat.reduceBEq, Nat.reduceLT, Nat.reduceLeDiff, Nat.reduceAdd, Nat.reduceSub, Nat.reduceMul, Nat.reduceEqDiff, Int.reduceLT, Int.reduceLE, Int.reduceAdd, Int.reduceSub, Int.reduceToNat, reduceCtorEq])) | (refine goN_at 15 [1, 2, 3, 4, 57, 58, 59] [1, 2, 4] _ rfl ?_; (simp only [go_sem, ↓reduceIte, Nat.reduceBEq, Nat.reduceLT, Nat.reduceLeDiff, Nat.reduceAdd, Nat.reduceSub, Nat.reduceMul, Nat.reduceEqDiff, Int.reduceLT, Int.reduceLE, Int.reduceAdd, Int.reduceSub, Int.reduceToNat, reduceCtorEq])) | (refine goN_at 17 [1, 2, 57, 58, 59] [1, 2, 4] _ rfl ?_; (simp only [go_sem, ↓reduceIte, Nat.reduceBEq, Nat.reduceLT, Nat.reduceLeDiff, Nat.reduceAdd, Nat.reduceSub, Nat.reduceMul, Nat.reduceEqDiff, Int.reduceLT, Int.reduceLE, Int.reduceAdd, Int.reduceSub, Int.reduceToNat, reduceCtorEq])) | refine goN _ ?_) | fail)
      all_goals try rw [any_att, ← guestAt_any] at *
      all_goals first
        | (simp_all; done)
        | (rw [hin, firstF_at (r := ⟨7, k⟩) hlt (by rw [faultAt_eq m hlt, ← checkG_eq]; (first | (simp [*]; done) | (simp_all []; done) | (simp_all []; omega))) hne])
        | (rw [hin, firstF_at (r := ⟨guestF m.Guests[k].Address m.Guests[k].Answer m.Guests[k].Offer.From m.Guests[k].Offer.To m.Round, k⟩) hlt (by rw [faultAt_eq m hlt, ← checkG_eq]; (first | (simp [*]; done) | (simp_all []; done) | (simp_all []; omega))) hne, ← checkG_eq])
        | (refine ⟨k + 1, ⟨hlt, nn_succ hne (by rw [faultAt_eq m hlt, ← checkG_eq]; (first | (simp [*]; done) | (simp_all []; done) | (simp_all []; omega)))⟩, by rw [wrap64 (by omega) (by omega)]; rfl, by omega⟩)
    · repeat' (first | (refine awp_seq_n fun N => ?_) | ((first | refine awp_reg ?_ | refine awp_exit ?_ | refine awp_skip ?_ | refine awp_ret ?_); (simp only [go_sem, ↓reduceIte, Nat.reduceBEq, Nat.reduceLT, Nat.reduceLeDiff, Nat.reduceAdd, Nat.reduceSub, Nat.reduceMul, Nat.reduceEqDiff, Int.reduceLT, Int.reduceLE, Int.reduceAdd, Int.reduceSub, Int.reduceToNat, reduceCtorEq, hlt, Try.results26])) | ((first | refine aGo_splitN (fun hif => ?_) (fun hif => ?_) | refine aGo_split (fun hif => ?_) (fun hif => ?_)) <;> (simp only [go_sem, ↓reduceIte, Nat.reduceBEq, Nat.reduceLT, Nat.reduceLeDiff, Nat.reduceAdd, Nat.reduceSub, Nat.reduceMul, Nat.reduceEqDiff, Int.reduceLT, Int.reduceLE, Int.reduceAdd, Int.reduceSub, Int.reduceToNat, reduceCtorEq, hif, hlt, Try.results26])) | (refine awp_block ?_) | (first | refine awp_condT (by (simp only [go_sem, ↓reduceIte, Nat.reduceBEq, Nat.reduceLT, Nat.reduceLeDiff, Nat.reduceAdd, Nat.reduceSub, Nat.reduceMul, Nat.reduceEqDiff, Int.reduceLT, Int.reduceLE, Int.reduceAdd, Int.reduceSub, Int.reduceToNat, reduceCtorEq, hlt, Try.results26]); rfl) (by first | rfl | assumption) ?_ | refine awp_condF (by (simp only [go_sem, ↓reduceIte, Nat.reduceBEq, Nat.reduceLT, Nat.reduceLeDiff, Nat.reduceAdd, Nat.reduceSub, Nat.reduceMul, Nat.reduceEqDiff, Int.reduceLT, Int.reduceLE, Int.reduceAdd, Int.reduceSub, Int.reduceToNat, reduceCtorEq, hlt, Try.results26]); rfl) (by first | rfl | assumption) ?_) | (refine awp_cond (by (simp only [go_sem, ↓reduceIte, Nat.reduceBEq, Nat.reduceLT, Nat.reduceLeDiff, Nat.reduceAdd, Nat.reduceSub, Nat.reduceMul, Nat.reduceEqDiff, Int.reduceLT, Int.reduceLE, Int.reduceAdd, Int.reduceSub, Int.reduceToNat, reduceCtorEq, hlt, Try.results26]); rfl) (fun hcd => ?_) (fun hcd => ?_) <;> (try (exact Bool.noConfusion hcd))) | (first | (refine goN_at 9 [1, 2] [1, 2] _ rfl ?_; (simp only [go_sem, ↓reduceIte, Nat.reduceBEq, Nat.reduceLT, Nat.reduceLeDiff, Nat.reduceAdd, Nat.reduceSub, Nat.reduceMul, Nat.reduceEqDiff, Int.reduceLT, Int.reduceLE, Int.reduceAdd, Int.reduceSub, Int.reduceToNat, reduceCtorEq])) | (refine goN_at 15 [1, 2, 3, 4, 57, 58, 59] [1, 2, 4] _ rfl ?_; (simp only [go_sem, ↓reduceIte, Nat.reduceBEq, Nat.reduceLT, Nat.reduceLeDiff, Nat.reduceAdd, Nat.reduceSub, Nat.reduceMul, Nat.reduceEqDiff, Int.reduceLT, Int.reduceLE, Int.reduceAdd, Int.reduceSub, Int.reduceToNat, reduceCtorEq])) | (refine goN_at 17 [1, 2, 57, 58, 59] [1, 2, 4] _ rfl ?_; (simp only [go_sem, ↓reduceIte, Nat.reduceBEq, Nat.reduceLT, Nat.reduceLeDiff, Nat.reduceAdd, Nat.reduceSub, Nat.reduceMul, Nat.reduceEqDiff, Int.reduceLT, Int.reduceLE, Int.reduceAdd, Int.reduceSub, Int.reduceToNat, reduceCtorEq])) | refine goN _ ?_) | fail)
      rw [hin, firstF_none (fun j hj => hne j (by omega))]
  all_goals first
    | (simp [faultM, guests_in, round_in, addr_in, validB_eq, *]; done)
    | (simp_all [faultM, prM, guests_in, round_in, addr_in, validB_eq]; done)
    | (simp_all [faultM, prM, guests_in, round_in, addr_in, validB_eq]; omega)
    | (have hp : prM m = true := (by simp_all [prM, validB_eq]); simp [faultM, guests_in, round_in, addr_in, hp, *]; done)
    | (have hp : prM m = true := (by simp_all [prM, validB_eq]; cases h1 : ieq m.Proposed.From 0 <;> simp_all); simp [faultM, guests_in, round_in, addr_in, hp, *]; done)
end Go.Fw
