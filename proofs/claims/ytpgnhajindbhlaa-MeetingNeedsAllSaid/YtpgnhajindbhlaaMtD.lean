/- Meeting: the place of a guest. -/
import Derived.Test.YtpgnhajindbhlaaFwArgs
set_option linter.unusedSimpArgs false
set_option linter.unusedVariables false
set_option maxRecDepth 20000
set_option maxHeartbeats 4000000
namespace Go.Fw
open Go Go.Proofs Go.Proofs.Ytpgnhajindbhlaa.Ty
def guestAt (gs : List Attendee) (a : ByteArray) : Int := match gs.findIdx? (fun g => seqB g.Address a) with | some i => i | none => -1
theorem guestAt_found {gs : List Attendee} {a : ByteArray} {k : Nat} (hk : k < gs.length) (hs : seqB gs[k].Address a = true) (hne : ∀ j g, j < k → gs[j]? = some g → seqB g.Address a = false) : guestAt gs a = k := by
  have : gs.findIdx? (fun g => seqB g.Address a) = some k := by
    rw [List.findIdx?_eq_some_iff_getElem]
    exact ⟨hk, hs, fun j hj => by simpa using hne j _ hj (List.getElem?_eq_getElem (by omega))⟩
  simp [guestAt, this]
theorem guestAt_none {gs : List Attendee} {a : ByteArray} (hne : ∀ j g, j < gs.length → gs[j]? = some g → seqB g.Address a = false) : guestAt gs a = -1 := by
  have : gs.findIdx? (fun g => seqB g.Address a) = none := by
    rw [List.findIdx?_eq_none_iff]
    intro x hx
    obtain ⟨j, hj, rfl⟩ := List.getElem_of_mem hx
    exact hne j _ hj (List.getElem?_eq_getElem hj)
  simp [guestAt, this]
theorem guestAt_c (gs : List Attendee) (a : ByteArray) (hb : gs.length < 9223372036854775807) : PCalls Try.prog 20 [.list (gs.map Attendee.d), .v (.string a)] (.d (.v (.int .i64 (guestAt gs a)))) := by
  refine pcalls_of_awp Try.func20 rfl (by kernel_rfl) (by simp [Try.ntmps20]) ?_
  repeat' (first | (refine awp_seq_n fun N => ?_) | ((first | refine awp_reg ?_ | refine awp_exit ?_ | refine awp_skip ?_ | refine awp_ret ?_); (simp only [go_sem, ↓reduceIte, Nat.reduceBEq, Nat.reduceLT, Nat.reduceLeDiff, Nat.reduceAdd, Nat.reduceSub, Nat.reduceMul, Nat.reduceEqDiff, Int.reduceLT, Int.reduceLE, Int.reduceAdd, Int.reduceSub, Int.reduceToNat, reduceCtorEq, Try.ntmps20, Try.results20])) | (refine awp_block ?_) | (first | refine awp_condT (by (simp only [go_sem, ↓reduceIte, Nat.reduceBEq, Nat.reduceLT, Nat.reduceLeDiff, Nat.reduceAdd, Nat.reduceSub, Nat.reduceMul, Nat.reduceEqDiff, Int.reduceLT, Int.reduceLE, Int.reduceAdd, Int.reduceSub, Int.reduceToNat, reduceCtorEq, Try.ntmps20, Try.results20]); rfl) (by first | rfl | assumption) ?_ | refine awp_condF (by (simp only [go_sem, ↓reduceIte, Nat.reduceBEq, Nat.reduceLT, Nat.reduceLeDiff, Nat.reduceAdd, Nat.reduceSub, Nat.reduceMul, Nat.reduceEqDiff, Int.reduceLT, Int.reduceLE, Int.reduceAdd, Int.reduceSub, Int.reduceToNat, reduceCtorEq, Try.ntmps20, Try.results20]); rfl) (by first | rfl | assumption) ?_) | (refine awp_cond (by (simp only [go_sem, ↓reduceIte, Nat.reduceBEq, Nat.reduceLT, Nat.reduceLeDiff, Nat.reduceAdd, Nat.reduceSub, Nat.reduceMul, Nat.reduceEqDiff, Int.reduceLT, Int.reduceLE, Int.reduceAdd, Int.reduceSub, Int.reduceToNat, reduceCtorEq, Try.ntmps20, Try.results20]); rfl) (fun hcd => ?_) (fun hcd => ?_) <;> (try (exact Bool.noConfusion hcd))) | (refine goN _ ?_) | fail)
  refine awp_loopF [0, 1, 4, 5] [] (fun k : Nat => ⟨20, 0, [(0, .d (.list (gs.map Attendee.d))), (1, .d (.v (.string a))), (4, .d (.v (.int .i64 0))), (5, .d (.v (.int .i64 k)))], hpL 0 [] (fun _ _ => .dead)⟩)
    (fun k => k ≤ gs.length ∧ ∀ j g, j < k → gs[j]? = some g → seqB g.Address a = false) (fun k => gs.length - k) 0 ⟨by simp, by simp⟩ (by simp only [go_sem, ↓reduceIte, Nat.reduceBEq, Nat.reduceLT, Nat.reduceLeDiff, Nat.reduceAdd, Nat.reduceSub, Nat.reduceMul, Nat.reduceEqDiff, Int.reduceLT, Int.reduceLE, Int.reduceAdd, Int.reduceSub, Int.reduceToNat, reduceCtorEq]; rfl) ?_
  rintro k ⟨hk, hne⟩
  by_cases hlt : k < gs.length
  · have hk1 : (gs.map Attendee.d)[k]? = some (Attendee.d gs[k]) := by simp [hlt]
    repeat' (first | (refine awp_seq_n fun N => ?_) | ((first | refine awp_reg ?_ | refine awp_exit ?_ | refine awp_skip ?_ | refine awp_ret ?_); (simp only [go_sem, ↓reduceIte, Nat.reduceBEq, Nat.reduceLT, Nat.reduceLeDiff, Nat.reduceAdd, Nat.reduceSub, Nat.reduceMul, Nat.reduceEqDiff, Int.reduceLT, Int.reduceLE, Int.reduceAdd, Int.reduceSub, Int.reduceToNat, reduceCtorEq, Int.toNat_natCast, Int.ofNat_lt, hlt, hk1, List.length_map, Try.results20])) | (refine awp_block ?_) | (first | refine awp_condT (by (simp only [go_sem, ↓reduceIte, Nat.reduceBEq, Nat.reduceLT, Nat.reduceLeDiff, Nat.reduceAdd, Nat.reduceSub, Nat.reduceMul, Nat.reduceEqDiff, Int.reduceLT, Int.reduceLE, Int.reduceAdd, Int.reduceSub, Int.reduceToNat, reduceCtorEq, Int.toNat_natCast, Int.ofNat_lt, hlt, hk1, List.length_map, Try.results20]); rfl) (by first | rfl | assumption) ?_ | refine awp_condF (by (simp only [go_sem, ↓reduceIte, Nat.reduceBEq, Nat.reduceLT, Nat.reduceLeDiff, Nat.reduceAdd, Nat.reduceSub, Nat.reduceMul, Nat.reduceEqDiff, Int.reduceLT, Int.reduceLE, Int.reduceAdd, Int.reduceSub, Int.reduceToNat, reduceCtorEq, Int.toNat_natCast, Int.ofNat_lt, hlt, hk1, List.length_map, Try.results20]); rfl) (by first | rfl | assumption) ?_) | (refine awp_cond (by (simp only [go_sem, ↓reduceIte, Nat.reduceBEq, Nat.reduceLT, Nat.reduceLeDiff, Nat.reduceAdd, Nat.reduceSub, Nat.reduceMul, Nat.reduceEqDiff, Int.reduceLT, Int.reduceLE, Int.reduceAdd, Int.reduceSub, Int.reduceToNat, reduceCtorEq, Int.toNat_natCast, Int.ofNat_lt, hlt, hk1, List.length_map, Try.results20]); rfl) (fun hcd => ?_) (fun hcd => ?_) <;> (try (exact Bool.noConfusion hcd))) | (refine goN _ ?_) | fail)
    · rw [guestAt_found hlt (by assumption) hne]
    · refine ⟨k + 1, ⟨hlt, fun j g hj hg => ?_⟩, ?_, by omega⟩
      · rcases Nat.lt_or_ge j k with h | h
        · exact hne j g h hg
        · obtain rfl : j = k := by omega
          rw [List.getElem?_eq_getElem hlt] at hg
          obtain rfl := Option.some.inj hg
          assumption
      · rw [wrap64 (by omega) (by omega)]; rfl
  · repeat' (first | (refine awp_seq_n fun N => ?_) | ((first | refine awp_reg ?_ | refine awp_exit ?_ | refine awp_skip ?_ | refine awp_ret ?_); (simp only [go_sem, ↓reduceIte, Nat.reduceBEq, Nat.reduceLT, Nat.reduceLeDiff, Nat.reduceAdd, Nat.reduceSub, Nat.reduceMul, Nat.reduceEqDiff, Int.reduceLT, Int.reduceLE, Int.reduceAdd, Int.reduceSub, Int.reduceToNat, reduceCtorEq, List.length_map, Int.ofNat_lt, hlt, Try.results20])) | (refine awp_block ?_) | (first | refine awp_condT (by (simp only [go_sem, ↓reduceIte, Nat.reduceBEq, Nat.reduceLT, Nat.reduceLeDiff, Nat.reduceAdd, Nat.reduceSub, Nat.reduceMul, Nat.reduceEqDiff, Int.reduceLT, Int.reduceLE, Int.reduceAdd, Int.reduceSub, Int.reduceToNat, reduceCtorEq, List.length_map, Int.ofNat_lt, hlt, Try.results20]); rfl) (by first | rfl | assumption) ?_ | refine awp_condF (by (simp only [go_sem, ↓reduceIte, Nat.reduceBEq, Nat.reduceLT, Nat.reduceLeDiff, Nat.reduceAdd, Nat.reduceSub, Nat.reduceMul, Nat.reduceEqDiff, Int.reduceLT, Int.reduceLE, Int.reduceAdd, Int.reduceSub, Int.reduceToNat, reduceCtorEq, List.length_map, Int.ofNat_lt, hlt, Try.results20]); rfl) (by first | rfl | assumption) ?_) | (refine awp_cond (by (simp only [go_sem, ↓reduceIte, Nat.reduceBEq, Nat.reduceLT, Nat.reduceLeDiff, Nat.reduceAdd, Nat.reduceSub, Nat.reduceMul, Nat.reduceEqDiff, Int.reduceLT, Int.reduceLE, Int.reduceAdd, Int.reduceSub, Int.reduceToNat, reduceCtorEq, List.length_map, Int.ofNat_lt, hlt, Try.results20]); rfl) (fun hcd => ?_) (fun hcd => ?_) <;> (try (exact Bool.noConfusion hcd))) | (refine goN _ ?_) | fail)
    rw [guestAt_none (fun j g hj hg => hne j g (by omega) hg)]
end Go.Fw
