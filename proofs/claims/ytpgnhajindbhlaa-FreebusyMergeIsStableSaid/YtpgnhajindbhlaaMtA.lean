/- Meeting: the small functions. -/
import Derived.Test.YtpgnhajindbhlaaFwArgs
set_option linter.unusedSimpArgs false
set_option linter.unusedVariables false
namespace Go.Fw
open Go Go.Proofs Go.Proofs.Ytpgnhajindbhlaa.Ty
def inB (a b c : Int) : Bool := decide (b ≤ a) && decide (a ≤ c)
theorem at_c (c i : Int) : PCalls Try.prog 21 [.v (.int .i64 c), .v (.int .i64 i)] (.d (.agg [.v (.int .i64 c), .v (.int .i64 i)])) := by
  refine pcalls_of_awp Try.func21 rfl (by kernel_rfl) (by simp [Try.ntmps21]) ?_
  repeat' (first | (refine awp_seq_n fun N => ?_) | ((first | refine awp_reg ?_ | refine awp_skip ?_ | refine awp_ret ?_); (simp only [go_sem, ↓reduceIte, Nat.reduceBEq, Nat.reduceLT, Nat.reduceLeDiff, Nat.reduceAdd, Nat.reduceSub, Nat.reduceMul, Nat.reduceEqDiff, Int.reduceLT, Int.reduceLE, Int.reduceAdd, Int.reduceSub, Int.reduceToNat, reduceCtorEq, Try.ntmps21, Try.results21])) | (refine goN _ ?_) | fail)
theorem in_c (a b c : Int) : PCalls Try.prog 22 [.v (.int .i64 a), .v (.int .i64 b), .v (.int .i64 c)] (.d (.v (.bool (inB a b c)))) := by
  refine pcalls_of_awp Try.func22 rfl (by kernel_rfl) (by simp [Try.ntmps22]) ?_
  repeat' (first | (refine awp_seq_n fun N => ?_) | ((first | refine awp_reg ?_ | refine awp_skip ?_ | refine awp_ret ?_); (simp only [go_sem, ↓reduceIte, Nat.reduceBEq, Nat.reduceLT, Nat.reduceLeDiff, Nat.reduceAdd, Nat.reduceSub, Nat.reduceMul, Nat.reduceEqDiff, Int.reduceLT, Int.reduceLE, Int.reduceAdd, Int.reduceSub, Int.reduceToNat, reduceCtorEq, Try.ntmps22, Try.results22])) | ((first | refine aGo_splitN (fun hif => ?_) (fun hif => ?_) | refine aGo_split (fun hif => ?_) (fun hif => ?_)) <;> (simp only [go_sem, ↓reduceIte, Nat.reduceBEq, Nat.reduceLT, Nat.reduceLeDiff, Nat.reduceAdd, Nat.reduceSub, Nat.reduceMul, Nat.reduceEqDiff, Int.reduceLT, Int.reduceLE, Int.reduceAdd, Int.reduceSub, Int.reduceToNat, reduceCtorEq, hif, Try.ntmps22, Try.results22])) | (refine goN _ ?_) | fail)
  all_goals (simp [inB, *])
def validB (f t : Int) : Bool := decide (-68719476736 ≤ f) && decide (t ≤ 68719476736) && decide (f < t)
theorem valid_c (f t : Int) : PCalls Try.prog 43 [.agg [.v (.int .i64 f), .v (.int .i64 t)]] (.d (.v (.bool (validB f t)))) := by
  refine pcalls_of_awp Try.func43 rfl (by kernel_rfl) (by simp [Try.ntmps43]) ?_
  repeat' (first | (refine awp_seq_n fun N => ?_) | ((first | refine awp_reg ?_ | refine awp_skip ?_ | refine awp_ret ?_); (simp only [go_sem, ↓reduceIte, Nat.reduceBEq, Nat.reduceLT, Nat.reduceLeDiff, Nat.reduceAdd, Nat.reduceSub, Nat.reduceMul, Nat.reduceEqDiff, Int.reduceLT, Int.reduceLE, Int.reduceAdd, Int.reduceSub, Int.reduceToNat, reduceCtorEq, Try.ntmps43, Try.results43])) | ((first | refine aGo_splitN (fun hif => ?_) (fun hif => ?_) | refine aGo_split (fun hif => ?_) (fun hif => ?_)) <;> (simp only [go_sem, ↓reduceIte, Nat.reduceBEq, Nat.reduceLT, Nat.reduceLeDiff, Nat.reduceAdd, Nat.reduceSub, Nat.reduceMul, Nat.reduceEqDiff, Int.reduceLT, Int.reduceLE, Int.reduceAdd, Int.reduceSub, Int.reduceToNat, reduceCtorEq, hif, Try.ntmps43, Try.results43])) | (refine goN _ ?_) | fail)
  all_goals (simp [validB, *])
theorem instant_c (a : Int) : PCalls Try.prog 49 [.v (.int .i64 a)] (.d (.v (.bool (inB a (-68719476736) 68719476736)))) := by
  refine pcalls_of_awp Try.func49 rfl (by kernel_rfl) (by simp [Try.ntmps49]) ?_
  repeat' (first | (refine awp_seq_n fun N => ?_) | ((first | refine awp_reg ?_ | refine awp_skip ?_ | refine awp_ret ?_ | refine callOk_data (in_c _ _ _) (by (simp only [go_sem, ↓reduceIte, Nat.reduceBEq, Nat.reduceLT, Nat.reduceLeDiff, Nat.reduceAdd, Nat.reduceSub, Nat.reduceMul, Nat.reduceEqDiff, Int.reduceLT, Int.reduceLE, Int.reduceAdd, Int.reduceSub, Int.reduceToNat, reduceCtorEq, Try.ntmps49, Try.results49]) <;> rfl) ?_); (simp only [go_sem, ↓reduceIte, Nat.reduceBEq, Nat.reduceLT, Nat.reduceLeDiff, Nat.reduceAdd, Nat.reduceSub, Nat.reduceMul, Nat.reduceEqDiff, Int.reduceLT, Int.reduceLE, Int.reduceAdd, Int.reduceSub, Int.reduceToNat, reduceCtorEq, Try.ntmps49, Try.results49])) | (refine goN _ ?_) | fail)
  all_goals (simp [inB, *])
theorem proposable_c (f t : Int) : PCalls Try.prog 23 [.agg [.v (.int .i64 f), .v (.int .i64 t)]] (.d (.v (.bool (inB f (-68719476736) 68719476736 && inB t (-68719476736) 68719476736 && decide (f < t))))) := by
  refine pcalls_of_awp Try.func23 rfl (by kernel_rfl) (by simp [Try.ntmps23]) ?_
  repeat' (first | (refine awp_seq_n fun N => ?_) | ((first | refine awp_reg ?_ | refine awp_skip ?_ | refine awp_ret ?_ | refine callOk_data (instant_c _) (by (simp only [go_sem, ↓reduceIte, Nat.reduceBEq, Nat.reduceLT, Nat.reduceLeDiff, Nat.reduceAdd, Nat.reduceSub, Nat.reduceMul, Nat.reduceEqDiff, Int.reduceLT, Int.reduceLE, Int.reduceAdd, Int.reduceSub, Int.reduceToNat, reduceCtorEq, Try.ntmps23, Try.results23]) <;> rfl) ?_); (simp only [go_sem, ↓reduceIte, Nat.reduceBEq, Nat.reduceLT, Nat.reduceLeDiff, Nat.reduceAdd, Nat.reduceSub, Nat.reduceMul, Nat.reduceEqDiff, Int.reduceLT, Int.reduceLE, Int.reduceAdd, Int.reduceSub, Int.reduceToNat, reduceCtorEq, Try.ntmps23, Try.results23])) | ((first | refine aGo_splitN (fun hif => ?_) (fun hif => ?_) | refine aGo_split (fun hif => ?_) (fun hif => ?_)) <;> (simp only [go_sem, ↓reduceIte, Nat.reduceBEq, Nat.reduceLT, Nat.reduceLeDiff, Nat.reduceAdd, Nat.reduceSub, Nat.reduceMul, Nat.reduceEqDiff, Int.reduceLT, Int.reduceLE, Int.reduceAdd, Int.reduceSub, Int.reduceToNat, reduceCtorEq, hif, Try.ntmps23, Try.results23])) | (refine goN _ ?_) | fail)
  all_goals (simp [*])
end Go.Fw
