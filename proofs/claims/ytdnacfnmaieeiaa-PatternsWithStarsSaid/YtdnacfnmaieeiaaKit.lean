/- Small laws for the pure statements: functions with rounds ('Ev'), reads of lists and bytes, whole numbers that do not wrap. -/
import Derived.Test.YtdnacfnmaieeiaaWWords
import Derived.Test.YtdnacfnmaieeiaaWMore
import Derived.RowKit
namespace Go.Proofs.YtdnacfnmaieeiaaO.Kit
open Go.RowKit Go.Proofs.YtdnacfnmaieeiaaW.PrintWords
section
variable {α β : Type}
theorem ev_pos {c : Prop} [Decidable c] {f g : Nat → Option α} {r : α} (h : c) (k : Ev f r) : Ev (fun n => if c then f n else g n) r := by
  simpa only [if_pos h] using k
theorem ev_neg {c : Prop} [Decidable c] {f g : Nat → Option α} {r : α} (h : ¬ c) (k : Ev g r) : Ev (fun n => if c then f n else g n) r := by
  simpa only [if_neg h] using k
theorem ev_ite {c : Prop} [Decidable c] {f g : Nat → Option α} {r : α} (h : c → Ev f r) (k : ¬ c → Ev g r) : Ev (fun n => if c then f n else g n) r := by
  by_cases hc : c
  · exact ev_pos hc (h hc)
  · exact ev_neg hc (k hc)
theorem ev_ite' {c : Prop} [Decidable c] {f g : Nat → Option α} {r s : α} (h : c → Ev f r) (k : ¬ c → Ev g s) : Ev (fun n => if c then f n else g n) (if c then r else s) := by
  by_cases hc : c
  · rw [if_pos hc]
    exact ev_pos hc (h hc)
  · rw [if_neg hc]
    exact ev_neg hc (k hc)
theorem ev_succ {g : Nat → Option α} {r : α} (k : Ev (fun n => g (n + 1)) r) : Ev g r := by
  obtain ⟨K, h⟩ := k
  refine ⟨K + 1, fun n hn => ?_⟩
  have := h (n - 1) (by omega)
  simpa [Nat.sub_add_cancel (show 1 ≤ n by omega)] using this
theorem ev_now {r s : α} (h : r = s) : Ev (fun _ => some r) s := h ▸ Ev.now r
theorem ev_bind {g : Nat → Option α} {f : Nat → α → Option β} {a : α} {r : β} (h : Ev g a) (k : Ev (fun n => f n a) r) : Ev (fun n => (g n).bind (f n)) r := Ev.bind h k
theorem ev_some {f : Nat → α → Option β} {a : α} {r : β} (k : Ev (fun n => f n a) r) : Ev (fun n => (some a).bind (f n)) r := Ev.bind (Ev.now a) k
theorem ev_const {o : Option α} {f : Nat → α → Option β} {a : α} {r : β} (h : o = some a) (k : Ev (fun n => f n a) r) : Ev (fun n => o.bind (f n)) r := by
  subst h
  exact Ev.bind (Ev.now a) k
theorem ev_eq {g : Nat → Option α} {r s : α} (h : Ev g r) (e : r = s) : Ev g s := e ▸ h
/-- Two answers of one function are one. -/
theorem ev_uniq {g : Nat → Option α} {r s : α} (h : Ev g r) (k : Ev g s) : r = s := by
  obtain ⟨K, h⟩ := h
  obtain ⟨L, k⟩ := k
  have a := h (max K L) (Nat.le_max_left _ _)
  have b := k (max K L) (Nat.le_max_right _ _)
  exact Option.some.inj (a.symm.trans b)
end
theorem w1 {i : Int} (h0 : 0 ≤ i) (h : i < 9223372036854775807) : wrap64 (i + 1) = i + 1 := by unfold wrap64; omega
theorem wN {k : Nat} (h : k < 9223372036854775807) : wrap64 ((k : Int) + 1) = ((k + 1 : Nat) : Int) := by unfold wrap64; omega
theorem wid {i : Int} (h0 : -9223372036854775808 ≤ i) (h : i ≤ 9223372036854775807) : wrap64 i = i := by unfold wrap64; omega
/-! bytes -/
theorem loop_eq (b : ByteArray) (i : Nat) (r : List UInt8) : i ≤ b.size → ByteArray.toList.loop b i r = r.reverse ++ b.data.toList.drop i := by
  intro hi
  unfold ByteArray.toList.loop
  have hs : b.data.toList.length = b.size := by simp
  by_cases h : i < b.size
  · rw [if_pos h, loop_eq b (i + 1) _ h]
    have hd : b.data.toList.drop i = b.get! i :: b.data.toList.drop (i + 1) := by
      rw [List.drop_eq_getElem_cons (by omega)]
      congr 1
      have h' : i < b.data.size := h
      show b.data.toList[i] = b.data[i]!
      rw [getElem!_pos b.data i h']
      simp
    rw [hd]
    simp
  · rw [if_neg h, List.drop_of_length_le (by omega)]
    simp
  termination_by b.size - i
theorem toList_data (b : ByteArray) : b.toList = b.data.toList := by
  unfold ByteArray.toList
  rw [loop_eq b 0 [] (Nat.zero_le _)]
  simp
theorem toList_inj {a b : ByteArray} : a.toList = b.toList ↔ a = b := by
  rw [toList_data, toList_data]
  constructor
  · intro h
    exact ByteArray.ext (by simpa using h)
  · rintro rfl
    rfl
/-! reads -/
theorem rdOf_drop {α : Type} {d x : α} {xs r : List α} {i : Int} (h : xs.drop i.toNat = x :: r) : rdOf d xs i = x := by
  unfold rdOf
  rw [List.getD_eq_getElem?_getD, ← List.head?_drop, h]
  rfl
theorem getD_drop {α : Type} {d x : α} {xs r : List α} {i : Nat} (h : xs.drop i = x :: r) : xs.getD i d = x := by
  rw [List.getD_eq_getElem?_getD, ← List.head?_drop, h]
  rfl
theorem drop_lt {α : Type} {x : α} {xs r : List α} {i : Nat} (h : xs.drop i = x :: r) : i < xs.length := by
  rcases Nat.lt_or_ge i xs.length with h' | h'
  · exact h'
  · rw [List.drop_of_length_le h'] at h
    cases h
theorem drop_ge {α : Type} {xs : List α} {i : Nat} (h : xs.drop i = []) : xs.length ≤ i := List.drop_eq_nil_iff.1 h
theorem drop_step {α : Type} {x : α} {xs r : List α} {i : Nat} (h : xs.drop i = x :: r) : xs.drop (i + 1) = r := by
  rw [← List.drop_drop, h]
  rfl
theorem toNat_succ {i : Int} (h : 0 ≤ i) : (i + 1).toNat = i.toNat + 1 := by omega
end Go.Proofs.YtdnacfnmaieeiaaO.Kit
