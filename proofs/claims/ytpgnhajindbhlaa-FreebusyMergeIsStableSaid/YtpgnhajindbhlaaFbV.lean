/- Freebusy: the gaps. -/
import Derived.Test.YtpgnhajindbhlaaFbU
import Derived.Test.YtpgnhajindbhlaaFwZb
set_option linter.unusedSimpArgs false
set_option linter.unusedVariables false
set_option maxRecDepth 20000
set_option maxHeartbeats 4000000
namespace Go.Fw
open Go Go.Proofs Go.Proofs.Ytpgnhajindbhlaa.Ty DVal
theorem set_self {H : Hp} {l t : Nat} {o : AObj} (h : H l t = o) : H.set l t o = H := by
  funext l' t'
  by_cases c : l' = l ∧ t' = t
  · obtain ⟨rfl, rfl⟩ := c
    rw [Hp.set_same, h]
  · rw [Hp.set_ne c]
/-- The closure that appends a gap. -/
theorem put_c (lev : Nat) (H : Hp) (n a b : Int) (acc : List Period) (hl : 0 < lev) (h7 : H 0 7 = .box [.d (.v (.int .i64 n))]) (h9 : H 0 9 = .box [.ref 0 1000 acc.length]) (hA : H 0 1000 = .arr 2 (acc.map Period.d))
    (hw : IntKind.i64.wrap (b - a) = b - a) (hb : (acc.length + 1) * 16 ≤ 140737488355328) :
    ACalls Try.prog 83 [.d (.v (.int .i64 a)), .d (.v (.int .i64 b)), .ptr 0 7 0, .ptr 0 9 0] lev H
      (fun r H' => r = .tup [] ∧ H' = ((H.set 0 1000 (.arr 2 ((gPut n a b acc).map Period.d))).set 0 9 (.box [.ref 0 1000 (gPut n a b acc).length]))) := by
  have h63 : acc.length ≤ 9223372036854775806 := by omega
  have hl' : lev ≠ 0 := by omega
  have hz : ((0 : Nat) == lev) = false := by simp; omega
  have hcut := cut_dead lev H
  refine acalls_w Try.func83 rfl (by kernel_rfl) (by simp [Try.ntmps83]) (fun hdead hbel => ?_)
  repeat' (first | (refine awp_seq_n fun N => ?_) | ((first | refine awp_reg ?_ | refine awp_skip ?_ | refine awp_ret ?_); (simp only [go_sem, ↓reduceIte, Nat.reduceBEq, Nat.reduceLT, Nat.reduceLeDiff, Nat.reduceAdd, Nat.reduceSub, Nat.reduceMul, Nat.reduceEqDiff, Int.reduceLT, Int.reduceLE, Int.reduceAdd, Int.reduceSub, Int.reduceToNat, reduceCtorEq, Try.ntmps83, Try.results83, h7, h9, hA, hw, hb, h63, hl, hz, Nat.zero_le])) | (first | refine awp_condT (by (simp only [go_sem, ↓reduceIte, Nat.reduceBEq, Nat.reduceLT, Nat.reduceLeDiff, Nat.reduceAdd, Nat.reduceSub, Nat.reduceMul, Nat.reduceEqDiff, Int.reduceLT, Int.reduceLE, Int.reduceAdd, Int.reduceSub, Int.reduceToNat, reduceCtorEq, Try.ntmps83, Try.results83, h7, h9, hA, hw, hb, h63, hl, hz, Nat.zero_le]); rfl) (by first | rfl | assumption) ?_ | refine awp_condF (by (simp only [go_sem, ↓reduceIte, Nat.reduceBEq, Nat.reduceLT, Nat.reduceLeDiff, Nat.reduceAdd, Nat.reduceSub, Nat.reduceMul, Nat.reduceEqDiff, Int.reduceLT, Int.reduceLE, Int.reduceAdd, Int.reduceSub, Int.reduceToNat, reduceCtorEq, Try.ntmps83, Try.results83, h7, h9, hA, hw, hb, h63, hl, hz, Nat.zero_le]); rfl) (by first | rfl | assumption) ?_) | (refine awp_cond (by (simp only [go_sem, ↓reduceIte, Nat.reduceBEq, Nat.reduceLT, Nat.reduceLeDiff, Nat.reduceAdd, Nat.reduceSub, Nat.reduceMul, Nat.reduceEqDiff, Int.reduceLT, Int.reduceLE, Int.reduceAdd, Int.reduceSub, Int.reduceToNat, reduceCtorEq, Try.ntmps83, Try.results83, h7, h9, hA, hw, hb, h63, hl, hz, Nat.zero_le]); rfl) (fun hcd => ?_) (fun hcd => ?_) <;> (try (exact Bool.noConfusion hcd))) | (refine goN _ ?_) | fail)
  · rw [gPut, if_pos (of_decide_eq_true hcd), List.map_append, List.length_append]
    funext l t
    rcases Nat.lt_or_ge l lev with h | h
    · have e1 : Nat.blt l lev = true := by rw [Nat.blt_eq]; exact h
      have e2 : (l == lev) = false := by simp; omega
      simp [Hp.cut, Hp.set, Hp.alloc, e1, e2]
      rfl
    · have e1 : Nat.blt l lev = false := by
        cases hh : Nat.blt l lev
        · rfl
        · rw [Nat.blt_eq] at hh; omega
      have e2 : (l == 0) = false := by simp; omega
      simp [Hp.cut, Hp.set, e1, e2, hdead l t h]
  · rw [hcut hdead, gPut, if_neg (of_decide_eq_false hcd), set_self hA, set_self h9]
def gAt (u : List Period) (f t n : Int) (k : Nat) : List Period × Int := (u.take k).foldl (gStep f t n) ([], f)
theorem gAt_succ {u : List Period} {f t n : Int} {k : Nat} (h : k < u.length) : gAt u f t n (k + 1) = gStep f t n (gAt u f t n k) u[k] := by
  rw [gAt, take_succ h, List.foldl_append]; rfl
theorem gaps_c (l : List Period) (f t n : Int) (hf : inst f = true) (ht : inst t = true) (hft : f ≤ t) (hu : Up l) (hin : InB (-68719476736) 68719476736 l) (hb : l.length * 16 ≤ 140737488350000) :
    PCalls Try.prog 62 [.list (l.map Period.d), .v (.int .i64 f), .v (.int .i64 t), .v (.int .i64 n)] (.d (.list ((gapsF l f t n).map Period.d))) := by
  simp only [inst, Bool.and_eq_true, decide_eq_true_eq] at hf ht
  have hul := union_len l
  have hui := union_in hin
  have huc := (union_spec hu).1
  have hun := unionL_c l (by omega)
  have hgf : gapsF l f t n = gPut n (gAt (unionF l) f t n (unionF l).length).2 t (gAt (unionF l) f t n (unionF l).length).1 := by rw [gAt, List.take_length]; rfl
  generalize unionF l = u at hul hui huc hun hgf
  refine pcalls_of_awp Try.func62 rfl (by kernel_rfl) (by simp [Try.ntmps62]) ?_
  repeat' (first | (refine awp_newAt 2 1000 9 0 2 rfl (by decide) (by (simp only [go_sem, ↓reduceIte, Nat.reduceBEq, Nat.reduceLT, Nat.reduceLeDiff, Nat.reduceAdd, Nat.reduceSub, Nat.reduceMul, Nat.reduceEqDiff, Int.reduceLT, Int.reduceLE, Int.reduceAdd, Int.reduceSub, Int.reduceToNat, reduceCtorEq, Try.ntmps62, Try.results62]); rfl) rfl ?_; (simp only [go_sem, ↓reduceIte, Nat.reduceBEq, Nat.reduceLT, Nat.reduceLeDiff, Nat.reduceAdd, Nat.reduceSub, Nat.reduceMul, Nat.reduceEqDiff, Int.reduceLT, Int.reduceLE, Int.reduceAdd, Int.reduceSub, Int.reduceToNat, reduceCtorEq, Try.ntmps62, Try.results62])) | (refine awp_seq_n fun N => ?_) | ((first | refine awp_reg ?_ | refine awp_exit ?_ | refine awp_skip ?_ | refine awp_ret ?_ | refine callOk_data (hun) (by (simp only [go_sem, ↓reduceIte, Nat.reduceBEq, Nat.reduceLT, Nat.reduceLeDiff, Nat.reduceAdd, Nat.reduceSub, Nat.reduceMul, Nat.reduceEqDiff, Int.reduceLT, Int.reduceLE, Int.reduceAdd, Int.reduceSub, Int.reduceToNat, reduceCtorEq, Try.ntmps62, Try.results62]) <;> rfl) ?_); (simp only [go_sem, ↓reduceIte, Nat.reduceBEq, Nat.reduceLT, Nat.reduceLeDiff, Nat.reduceAdd, Nat.reduceSub, Nat.reduceMul, Nat.reduceEqDiff, Int.reduceLT, Int.reduceLE, Int.reduceAdd, Int.reduceSub, Int.reduceToNat, reduceCtorEq, Try.ntmps62, Try.results62])) | ((first | refine aGo_splitN (fun hif => ?_) (fun hif => ?_) | refine aGo_split (fun hif => ?_) (fun hif => ?_)) <;> (simp only [go_sem, ↓reduceIte, Nat.reduceBEq, Nat.reduceLT, Nat.reduceLeDiff, Nat.reduceAdd, Nat.reduceSub, Nat.reduceMul, Nat.reduceEqDiff, Int.reduceLT, Int.reduceLE, Int.reduceAdd, Int.reduceSub, Int.reduceToNat, reduceCtorEq, hif, Try.ntmps62, Try.results62])) | (refine awp_block ?_) | (first | refine awp_condT (by (simp only [go_sem, ↓reduceIte, Nat.reduceBEq, Nat.reduceLT, Nat.reduceLeDiff, Nat.reduceAdd, Nat.reduceSub, Nat.reduceMul, Nat.reduceEqDiff, Int.reduceLT, Int.reduceLE, Int.reduceAdd, Int.reduceSub, Int.reduceToNat, reduceCtorEq, Try.ntmps62, Try.results62]); rfl) (by first | rfl | assumption) ?_ | refine awp_condF (by (simp only [go_sem, ↓reduceIte, Nat.reduceBEq, Nat.reduceLT, Nat.reduceLeDiff, Nat.reduceAdd, Nat.reduceSub, Nat.reduceMul, Nat.reduceEqDiff, Int.reduceLT, Int.reduceLE, Int.reduceAdd, Int.reduceSub, Int.reduceToNat, reduceCtorEq, Try.ntmps62, Try.results62]); rfl) (by first | rfl | assumption) ?_) | (refine awp_cond (by (simp only [go_sem, ↓reduceIte, Nat.reduceBEq, Nat.reduceLT, Nat.reduceLeDiff, Nat.reduceAdd, Nat.reduceSub, Nat.reduceMul, Nat.reduceEqDiff, Int.reduceLT, Int.reduceLE, Int.reduceAdd, Int.reduceSub, Int.reduceToNat, reduceCtorEq, Try.ntmps62, Try.results62]); rfl) (fun hcd => ?_) (fun hcd => ?_) <;> (try (exact Bool.noConfusion hcd))) | (first | (refine goN_at 7 [1, 2, 8, 9, 10, 11, 13, 17, 18, 19] [7, 8, 9, 13, 17, 1000] _ rfl ?_; (simp only [go_sem, ↓reduceIte, Nat.reduceBEq, Nat.reduceLT, Nat.reduceLeDiff, Nat.reduceAdd, Nat.reduceSub, Nat.reduceMul, Nat.reduceEqDiff, Int.reduceLT, Int.reduceLE, Int.reduceAdd, Int.reduceSub, Int.reduceToNat, reduceCtorEq])) | (refine goN_at 9 [1, 2, 8, 9, 10, 11, 13, 17, 18, 19] [7, 8, 9, 13, 17, 1000] _ rfl ?_; (simp only [go_sem, ↓reduceIte, Nat.reduceBEq, Nat.reduceLT, Nat.reduceLeDiff, Nat.reduceAdd, Nat.reduceSub, Nat.reduceMul, Nat.reduceEqDiff, Int.reduceLT, Int.reduceLE, Int.reduceAdd, Int.reduceSub, Int.reduceToNat, reduceCtorEq])) | refine goN _ ?_) | fail)
  refine awp_loopU [1, 2, 8, 9, 10, 11, 17, 18, 19] [7, 8, 9, 17, 1000] (fun k : Nat => [(19, .d (.v (.int .i64 k))), (11, .d (.v (.int .i64 (gAt u f t n k).2)))]) (fun k => [(9, .box [.ref 0 1000 (gAt u f t n k).1.length]), (1000, .arr 2 ((gAt u f t n k).1.map Period.d))]) (fun k => k ≤ u.length) (fun k => u.length - k) 0 (by simp only [go_sem, ↓reduceIte, Nat.reduceBEq, Nat.reduceLT, Nat.reduceLeDiff, Nat.reduceAdd, Nat.reduceSub, Nat.reduceMul, Nat.reduceEqDiff, Int.reduceLT, Int.reduceLE, Int.reduceAdd, Int.reduceSub, Int.reduceToNat, reduceCtorEq]; rfl) (by simp only [go_sem, ↓reduceIte, Nat.reduceBEq, Nat.reduceLT, Nat.reduceLeDiff, Nat.reduceAdd, Nat.reduceSub, Nat.reduceMul, Nat.reduceEqDiff, Int.reduceLT, Int.reduceLE, Int.reduceAdd, Int.reduceSub, Int.reduceToNat, reduceCtorEq]; rfl) (by omega) ?_
  intro k hk
  have hgl := gFold_len f t n (u.take k) ([], f)
  have hga := gFold_at (n := n) hft (u.take k) ([], f) ⟨by simp, by simpa using hft⟩
  have hgd : gAt u f t n k = (u.take k).foldl (gStep f t n) ([], f) := rfl
  rw [← hgd, len_take hk] at hgl
  rw [← hgd] at hga
  simp only [List.length_nil, Nat.zero_add] at hgl
  by_cases hlt : k < u.length
  · have hs := gAt_succ (f := f) (t := t) (n := n) hlt
    have hpi := hui _ (List.getElem_mem hlt)
    have hpp := huc.2 _ (List.getElem_mem hlt)
    have hw1 : IntKind.i64.wrap ((k : Int) + 1) = ((k + 1 : Nat) : Int) := by rw [wrap64 (by omega) (by omega)]; rfl
    have hwx : IntKind.i64.wrap (max u[k].From f - (gAt u f t n k).2) = max u[k].From f - (gAt u f t n k).2 := wrap64 (by omega) (by omega)
    have hroom : ((gAt u f t n k).1.length + 1) * 16 ≤ 140737488355328 := by omega
    repeat' (first | (refine awp_seq_n fun N => ?_) | ((first | refine awp_reg ?_ | refine awp_exit ?_ | refine awp_skip ?_ | refine awp_ret ?_ | (refine callOk_raw ((put_c _ _ n (gAt u f t n k).2 (max u[k].From f) (gAt u f t n k).1 (Nat.zero_lt_succ _) rfl rfl rfl hwx hroom)) ?_; rintro r H' ⟨hr1, hr2⟩; rw [hr1, hr2]; clear hr1 hr2)); (simp only [go_sem, ↓reduceIte, Nat.reduceBEq, Nat.reduceLT, Nat.reduceLeDiff, Nat.reduceAdd, Nat.reduceSub, Nat.reduceMul, Nat.reduceEqDiff, Int.reduceLT, Int.reduceLE, Int.reduceAdd, Int.reduceSub, Int.reduceToNat, reduceCtorEq, hw1, hlt, map_at hlt])) | ((first | refine aGo_splitN (fun hif => ?_) (fun hif => ?_) | refine aGo_split (fun hif => ?_) (fun hif => ?_)) <;> (simp only [go_sem, ↓reduceIte, Nat.reduceBEq, Nat.reduceLT, Nat.reduceLeDiff, Nat.reduceAdd, Nat.reduceSub, Nat.reduceMul, Nat.reduceEqDiff, Int.reduceLT, Int.reduceLE, Int.reduceAdd, Int.reduceSub, Int.reduceToNat, reduceCtorEq, hif, hw1, hlt, map_at hlt])) | (refine awp_block ?_) | (first | refine awp_condT (by (simp only [go_sem, ↓reduceIte, Nat.reduceBEq, Nat.reduceLT, Nat.reduceLeDiff, Nat.reduceAdd, Nat.reduceSub, Nat.reduceMul, Nat.reduceEqDiff, Int.reduceLT, Int.reduceLE, Int.reduceAdd, Int.reduceSub, Int.reduceToNat, reduceCtorEq, hw1, hlt, map_at hlt]); rfl) (by first | rfl | assumption) ?_ | refine awp_condF (by (simp only [go_sem, ↓reduceIte, Nat.reduceBEq, Nat.reduceLT, Nat.reduceLeDiff, Nat.reduceAdd, Nat.reduceSub, Nat.reduceMul, Nat.reduceEqDiff, Int.reduceLT, Int.reduceLE, Int.reduceAdd, Int.reduceSub, Int.reduceToNat, reduceCtorEq, hw1, hlt, map_at hlt]); rfl) (by first | rfl | assumption) ?_) | (refine awp_cond (by (simp only [go_sem, ↓reduceIte, Nat.reduceBEq, Nat.reduceLT, Nat.reduceLeDiff, Nat.reduceAdd, Nat.reduceSub, Nat.reduceMul, Nat.reduceEqDiff, Int.reduceLT, Int.reduceLE, Int.reduceAdd, Int.reduceSub, Int.reduceToNat, reduceCtorEq, hw1, hlt, map_at hlt]); rfl) (fun hcd => ?_) (fun hcd => ?_) <;> (try (exact Bool.noConfusion hcd))) | (first | (refine goN_at 7 [1, 2, 8, 9, 10, 11, 13, 17, 18, 19] [7, 8, 9, 13, 17, 1000] _ rfl ?_; (simp only [go_sem, ↓reduceIte, Nat.reduceBEq, Nat.reduceLT, Nat.reduceLeDiff, Nat.reduceAdd, Nat.reduceSub, Nat.reduceMul, Nat.reduceEqDiff, Int.reduceLT, Int.reduceLE, Int.reduceAdd, Int.reduceSub, Int.reduceToNat, reduceCtorEq])) | (refine goN_at 9 [1, 2, 8, 9, 10, 11, 13, 17, 18, 19] [7, 8, 9, 13, 17, 1000] _ rfl ?_; (simp only [go_sem, ↓reduceIte, Nat.reduceBEq, Nat.reduceLT, Nat.reduceLeDiff, Nat.reduceAdd, Nat.reduceSub, Nat.reduceMul, Nat.reduceEqDiff, Int.reduceLT, Int.reduceLE, Int.reduceAdd, Int.reduceSub, Int.reduceToNat, reduceCtorEq])) | refine goN _ ?_) | fail)
    · have h1 : decide (u[k].To ≤ f) = true := by assumption
      exact ⟨k + 1, hlt, by rw [hs, gStep, if_pos (.inl (of_decide_eq_true h1))], by omega⟩
    · have h1 : decide (t ≤ u[k].From) = true := by assumption
      exact ⟨k + 1, hlt, by rw [hs, gStep, if_pos (.inr (of_decide_eq_true h1))], by omega⟩
    · have h1 : decide (u[k].To ≤ f) = false := by assumption
      have h2 : decide (t ≤ u[k].From) = false := by assumption
      exact ⟨k + 1, hlt, by rw [hs, gStep, if_neg (fun c => c.elim (of_decide_eq_false h1) (of_decide_eq_false h2))], by omega⟩
  · obtain rfl : k = u.length := by omega
    have hwx : IntKind.i64.wrap (t - (gAt u f t n u.length).2) = t - (gAt u f t n u.length).2 := wrap64 (by omega) (by omega)
    have hroom : ((gAt u f t n u.length).1.length + 1) * 16 ≤ 140737488355328 := by omega
    repeat' (first | (refine awp_seq_n fun N => ?_) | ((first | refine awp_reg ?_ | refine awp_exit ?_ | refine awp_skip ?_ | refine awp_ret ?_ | (refine callOk_raw ((put_c _ _ n (gAt u f t n u.length).2 t (gAt u f t n u.length).1 (Nat.zero_lt_succ _) rfl rfl rfl hwx hroom)) ?_; rintro r H' ⟨hr1, hr2⟩; rw [hr1, hr2]; clear hr1 hr2)); (simp only [go_sem, ↓reduceIte, Nat.reduceBEq, Nat.reduceLT, Nat.reduceLeDiff, Nat.reduceAdd, Nat.reduceSub, Nat.reduceMul, Nat.reduceEqDiff, Int.reduceLT, Int.reduceLE, Int.reduceAdd, Int.reduceSub, Int.reduceToNat, reduceCtorEq, hlt, Try.results62])) | ((first | refine aGo_splitN (fun hif => ?_) (fun hif => ?_) | refine aGo_split (fun hif => ?_) (fun hif => ?_)) <;> (simp only [go_sem, ↓reduceIte, Nat.reduceBEq, Nat.reduceLT, Nat.reduceLeDiff, Nat.reduceAdd, Nat.reduceSub, Nat.reduceMul, Nat.reduceEqDiff, Int.reduceLT, Int.reduceLE, Int.reduceAdd, Int.reduceSub, Int.reduceToNat, reduceCtorEq, hif, hlt, Try.results62])) | (refine awp_block ?_) | (first | refine awp_condT (by (simp only [go_sem, ↓reduceIte, Nat.reduceBEq, Nat.reduceLT, Nat.reduceLeDiff, Nat.reduceAdd, Nat.reduceSub, Nat.reduceMul, Nat.reduceEqDiff, Int.reduceLT, Int.reduceLE, Int.reduceAdd, Int.reduceSub, Int.reduceToNat, reduceCtorEq, hlt, Try.results62]); rfl) (by first | rfl | assumption) ?_ | refine awp_condF (by (simp only [go_sem, ↓reduceIte, Nat.reduceBEq, Nat.reduceLT, Nat.reduceLeDiff, Nat.reduceAdd, Nat.reduceSub, Nat.reduceMul, Nat.reduceEqDiff, Int.reduceLT, Int.reduceLE, Int.reduceAdd, Int.reduceSub, Int.reduceToNat, reduceCtorEq, hlt, Try.results62]); rfl) (by first | rfl | assumption) ?_) | (refine awp_cond (by (simp only [go_sem, ↓reduceIte, Nat.reduceBEq, Nat.reduceLT, Nat.reduceLeDiff, Nat.reduceAdd, Nat.reduceSub, Nat.reduceMul, Nat.reduceEqDiff, Int.reduceLT, Int.reduceLE, Int.reduceAdd, Int.reduceSub, Int.reduceToNat, reduceCtorEq, hlt, Try.results62]); rfl) (fun hcd => ?_) (fun hcd => ?_) <;> (try (exact Bool.noConfusion hcd))) | (first | (refine goN_at 7 [1, 2, 8, 9, 10, 11, 13, 17, 18, 19] [7, 8, 9, 13, 17, 1000] _ rfl ?_; (simp only [go_sem, ↓reduceIte, Nat.reduceBEq, Nat.reduceLT, Nat.reduceLeDiff, Nat.reduceAdd, Nat.reduceSub, Nat.reduceMul, Nat.reduceEqDiff, Int.reduceLT, Int.reduceLE, Int.reduceAdd, Int.reduceSub, Int.reduceToNat, reduceCtorEq])) | (refine goN_at 9 [1, 2, 8, 9, 10, 11, 13, 17, 18, 19] [7, 8, 9, 13, 17, 1000] _ rfl ?_; (simp only [go_sem, ↓reduceIte, Nat.reduceBEq, Nat.reduceLT, Nat.reduceLeDiff, Nat.reduceAdd, Nat.reduceSub, Nat.reduceMul, Nat.reduceEqDiff, Int.reduceLT, Int.reduceLE, Int.reduceAdd, Int.reduceSub, Int.reduceToNat, reduceCtorEq])) | refine goN _ ?_) | fail)
    rw [hgf]
end Go.Fw
