/- Meeting: the small meeting of the laws. -/
import Derived.Test.YtpgnhajindbhlaaMtI
import Derived.Test.YtpgnhajindbhlaaMtJ
set_option linter.unusedSimpArgs false
set_option linter.unusedVariables false
set_option maxRecDepth 20000
set_option maxHeartbeats 4000000
namespace Go.Fw
open Go Go.Proofs Go.Proofs.Ytpgnhajindbhlaa.Ty
def tableM : Meeting := ⟨⟨#[111]⟩, [⟨⟨#[103]⟩, 0, ⟨0, 0⟩⟩], 0, ⟨0, 0⟩, false⟩
theorem table_c : PCalls Try.prog 48 [] (.d tableM.d) := by
  refine pcalls_of_awp Try.func48 rfl (by kernel_rfl) (by simp [Try.ntmps48]) ?_
  repeat' (first | (refine awp_seq_n fun N => ?_) | ((first | refine awp_reg ?_ | refine awp_skip ?_ | refine awp_ret ?_); (simp only [go_sem, ↓reduceIte, Nat.reduceBEq, Nat.reduceLT, Nat.reduceLeDiff, Nat.reduceAdd, Nat.reduceSub, Nat.reduceMul, Nat.reduceEqDiff, Int.reduceLT, Int.reduceLE, Int.reduceAdd, Int.reduceSub, Int.reduceToNat, reduceCtorEq, Try.ntmps48, Try.results48, tableM])) | (refine goN _ ?_) | fail)
def tableP : Meeting := ⟨⟨#[111]⟩, [⟨⟨#[103]⟩, 0, ⟨0, 0⟩⟩], 1, ⟨1, 2⟩, false⟩
def tableA : Meeting := ⟨⟨#[111]⟩, [⟨⟨#[103]⟩, 1, ⟨0, 0⟩⟩], 1, ⟨1, 2⟩, false⟩
theorem table_p : proposeM tableM ⟨1, 2⟩ = (tableP, ⟨0, 0⟩) := by decide
theorem table_a : answerM tableP ⟨#[103]⟩ 1 ⟨0, 0⟩ = (tableA, ⟨0, 0⟩) := by decide
theorem table_g : agreedM tableA = (true, ⟨0, 0⟩) := by decide
theorem table_n : agreedM tableP = (false, ⟨0, 0⟩) := by decide
theorem tprop_c : PCalls Try.prog 24 [tableM.d, (⟨1, 2⟩ : Period).d] (.tup [.d tableP.d, .d (⟨0, 0⟩ : Fault).d]) := by
  have := propose_c tableM ⟨1, 2⟩ (by decide)
  rwa [table_p] at this
theorem tans_c : PCalls Try.prog 15 [tableP.d, .v (.string ⟨#[103]⟩), .v (.int .i64 1), (⟨0, 0⟩ : Period).d] (.tup [.d tableA.d, .d (⟨0, 0⟩ : Fault).d]) := by
  have := answer_c tableP ⟨#[103]⟩ 1 ⟨0, 0⟩ (by decide)
  rwa [table_a] at this
theorem tagr_c : PCalls Try.prog 16 [tableA.d] (.tup [.d (.v (.bool true)), .d (⟨0, 0⟩ : Fault).d]) := by
  have := agreed_c tableA (by decide)
  rwa [table_g] at this
theorem tagn_c : PCalls Try.prog 16 [tableP.d] (.tup [.d (.v (.bool false)), .d (⟨0, 0⟩ : Fault).d]) := by
  have := agreed_c tableP (by decide)
  rwa [table_n] at this
theorem small_c : PCalls Try.prog 19 [] (.d (.v (.bool true))) := by
  refine pcalls_of_awp Try.func19 rfl (by kernel_rfl) (by simp [Try.ntmps19]) ?_
  repeat' (first | (refine awp_seq_n fun N => ?_) | ((first | refine awp_reg ?_ | refine awp_skip ?_ | refine awp_ret ?_ | refine callOk_data (table_c) (by (simp only [go_sem, ↓reduceIte, Nat.reduceBEq, Nat.reduceLT, Nat.reduceLeDiff, Nat.reduceAdd, Nat.reduceSub, Nat.reduceMul, Nat.reduceEqDiff, Int.reduceLT, Int.reduceLE, Int.reduceAdd, Int.reduceSub, Int.reduceToNat, reduceCtorEq, Try.ntmps19, Try.results19, tableM, tableP, tableA]) <;> rfl) ?_ | refine callOk_data (tprop_c) (by (simp only [go_sem, ↓reduceIte, Nat.reduceBEq, Nat.reduceLT, Nat.reduceLeDiff, Nat.reduceAdd, Nat.reduceSub, Nat.reduceMul, Nat.reduceEqDiff, Int.reduceLT, Int.reduceLE, Int.reduceAdd, Int.reduceSub, Int.reduceToNat, reduceCtorEq, Try.ntmps19, Try.results19, tableM, tableP, tableA]) <;> rfl) ?_ | refine callOk_data (tans_c) (by (simp only [go_sem, ↓reduceIte, Nat.reduceBEq, Nat.reduceLT, Nat.reduceLeDiff, Nat.reduceAdd, Nat.reduceSub, Nat.reduceMul, Nat.reduceEqDiff, Int.reduceLT, Int.reduceLE, Int.reduceAdd, Int.reduceSub, Int.reduceToNat, reduceCtorEq, Try.ntmps19, Try.results19, tableM, tableP, tableA]) <;> rfl) ?_ | refine callOk_data (tagr_c) (by (simp only [go_sem, ↓reduceIte, Nat.reduceBEq, Nat.reduceLT, Nat.reduceLeDiff, Nat.reduceAdd, Nat.reduceSub, Nat.reduceMul, Nat.reduceEqDiff, Int.reduceLT, Int.reduceLE, Int.reduceAdd, Int.reduceSub, Int.reduceToNat, reduceCtorEq, Try.ntmps19, Try.results19, tableM, tableP, tableA]) <;> rfl) ?_ | refine callOk_data (tagn_c) (by (simp only [go_sem, ↓reduceIte, Nat.reduceBEq, Nat.reduceLT, Nat.reduceLeDiff, Nat.reduceAdd, Nat.reduceSub, Nat.reduceMul, Nat.reduceEqDiff, Int.reduceLT, Int.reduceLE, Int.reduceAdd, Int.reduceSub, Int.reduceToNat, reduceCtorEq, Try.ntmps19, Try.results19, tableM, tableP, tableA]) <;> rfl) ?_); (simp only [go_sem, ↓reduceIte, Nat.reduceBEq, Nat.reduceLT, Nat.reduceLeDiff, Nat.reduceAdd, Nat.reduceSub, Nat.reduceMul, Nat.reduceEqDiff, Int.reduceLT, Int.reduceLE, Int.reduceAdd, Int.reduceSub, Int.reduceToNat, reduceCtorEq, Try.ntmps19, Try.results19, tableM, tableP, tableA])) | ((first | refine aGo_splitN (fun hif => ?_) (fun hif => ?_) | refine aGo_split (fun hif => ?_) (fun hif => ?_)) <;> (simp only [go_sem, ↓reduceIte, Nat.reduceBEq, Nat.reduceLT, Nat.reduceLeDiff, Nat.reduceAdd, Nat.reduceSub, Nat.reduceMul, Nat.reduceEqDiff, Int.reduceLT, Int.reduceLE, Int.reduceAdd, Int.reduceSub, Int.reduceToNat, reduceCtorEq, hif, Try.ntmps19, Try.results19, tableM, tableP, tableA])) | (first | (refine goN_at 3 [0, 1, 2, 3, 4] [1, 2, 3, 4] _ rfl ?_; (simp only [go_sem, ↓reduceIte, Nat.reduceBEq, Nat.reduceLT, Nat.reduceLeDiff, Nat.reduceAdd, Nat.reduceSub, Nat.reduceMul, Nat.reduceEqDiff, Int.reduceLT, Int.reduceLE, Int.reduceAdd, Int.reduceSub, Int.reduceToNat, reduceCtorEq])) | (refine goN_at 5 [0, 1, 2, 4, 5, 6, 7, 8] [1, 2, 3, 4, 6, 8] _ rfl ?_; (simp only [go_sem, ↓reduceIte, Nat.reduceBEq, Nat.reduceLT, Nat.reduceLeDiff, Nat.reduceAdd, Nat.reduceSub, Nat.reduceMul, Nat.reduceEqDiff, Int.reduceLT, Int.reduceLE, Int.reduceAdd, Int.reduceSub, Int.reduceToNat, reduceCtorEq])) | refine goN _ ?_) | fail)
end Go.Fw
