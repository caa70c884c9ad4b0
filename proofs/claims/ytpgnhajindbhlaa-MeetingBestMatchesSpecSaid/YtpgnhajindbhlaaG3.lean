/- The framework and the contracts of this claim, part 3 of 5. -/
import Derived.Test.YtpgnhajindbhlaaG2
/- Lists and numbers for the laws of loops. -/
set_option autoImplicit false
namespace Go.Fw
theorem wrap64 {z : Int} (h : -9223372036854775808 ≤ z) (k : z ≤ 9223372036854775807) : IntKind.i64.wrap z = z := by
  simp [IntKind.wrap, IntKind.bits, IntKind.signed]
  omega
def idxF (p : DVal → Bool) (xs : List DVal) : Int := match xs.findIdx? p with | some i => i | none => -1
theorem idxF_found {p : DVal → Bool} {xs : List DVal} {k : Nat} (hk : k < xs.length) (hs : p xs[k] = true) (hne : ∀ j, j < k → ∀ h : j < xs.length, p xs[j] = false) : idxF p xs = k := by
  have : xs.findIdx? p = some k := by
    rw [List.findIdx?_eq_some_iff_getElem]
    exact ⟨hk, hs, fun j hj => by simpa using hne j hj (by omega)⟩
  simp [idxF, this]
theorem idxF_none {p : DVal → Bool} {xs : List DVal} (hne : ∀ j, ∀ h : j < xs.length, p xs[j] = false) : idxF p xs = -1 := by
  have : xs.findIdx? p = none := by
    rw [List.findIdx?_eq_none_iff]
    intro x hx
    obtain ⟨j, hj, rfl⟩ := List.getElem_of_mem hx
    exact hne j hj
  simp [idxF, this]
theorem idxF_any (p : DVal → Bool) (xs : List DVal) : decide (0 ≤ idxF p xs) = xs.any p := by
  unfold idxF
  cases h : xs.findIdx? p with
  | none =>
    rw [List.findIdx?_eq_none_iff] at h
    have : xs.any p = false := by
      rw [List.any_eq_false]
      intro x hx
      simpa using h x hx
    rw [this]; rfl
  | some i =>
    rw [List.findIdx?_eq_some_iff_getElem] at h
    obtain ⟨h1, h2, _⟩ := h
    have : xs.any p = true := by
      rw [List.any_eq_true]
      exact ⟨_, List.getElem_mem h1, h2⟩
    rw [this]
    simp
def firstF {α : Type} (n : Nat) (f : Nat → Option α) (d : α) : α := ((List.range n).findSome? f).getD d
theorem firstF_at {α : Type} {n k : Nat} {f : Nat → Option α} {d r : α} (hk : k < n) (h : f k = some r) (hne : ∀ j, j < k → f j = none) : firstF n f d = r := by
  have : (List.range n).findSome? f = some r := by
    rw [List.findSome?_eq_some_iff]
    refine ⟨List.range k, k, (List.range' (k + 1) (n - k - 1)), ?_, h, fun j hj => hne j (List.mem_range.1 hj)⟩
    rw [List.range_eq_range', List.range_eq_range', ← List.range'_succ, show n - k - 1 + 1 = n - k by omega]
    have := List.range'_append_1 (s := 0) (m := k) (n := n - k)
    rw [show k + (n - k) = n by omega, Nat.zero_add] at this
    exact this.symm
  simp [firstF, this]
theorem firstF_none {α : Type} {n : Nat} {f : Nat → Option α} {d : α} (hne : ∀ j, j < n → f j = none) : firstF n f d = d := by
  have : (List.range n).findSome? f = none := by
    rw [List.findSome?_eq_none_iff]
    exact fun j hj => hne j (List.mem_range.1 hj)
  simp [firstF, this]
theorem nn_succ {α : Type} {f : Nat → Option α} {k : Nat} (h : ∀ j, j < k → f j = none) (hk : f k = none) : ∀ j, j < k + 1 → f j = none := fun j hj => by
  rcases Nat.lt_or_ge j k with h' | h'
  · exact h j h'
  · obtain rfl : j = k := by omega
    exact hk
theorem map_at {α β : Type} {f : α → β} {l : List α} {k : Nat} (h : k < l.length) : (l.map f)[k]? = some (f l[k]) := by simp [h]
theorem allLen_map {α : Type} {f : α → DVal} {n : Nat} (h : ∀ x, (f x).cells.length = n) (l : List α) : allLen n (l.map f) = true := allLen_iff.2 fun y hy => by
  obtain ⟨x, _, rfl⟩ := List.mem_map.1 hy
  exact h x
@[go_sem] theorem allLen_nil (n : Nat) : allLen n [] = true := rfl
@[go_sem] theorem allLen_cons (n : Nat) (y : DVal) (ys : List DVal) : allLen n (y :: ys) = ((y.cells.length == n) && allLen n ys) := by
  unfold allLen
  rw [List.all_cons, nbeq]
theorem len_take {α : Type} {l : List α} {k : Nat} (h : k ≤ l.length) : (l.take k).length = k := by simp [h]
theorem take_succ {α : Type} {l : List α} {k : Nat} (h : k < l.length) : l.take (k + 1) = l.take k ++ [l[k]] := by simp
@[go_sem] theorem take_map {α β : Type} (f : α → β) (l : List α) (k : Nat) : (l.map f).take k = (l.take k).map f := List.map_take.symm
@[go_sem] theorem drop_map {α β : Type} (f : α → β) (l : List α) (k : Nat) : (l.map f).drop k = (l.drop k).map f := List.map_drop.symm
@[go_sem] theorem purge_dead0 (a b : Nat) : Hp.purge (fun _ _ => AObj.dead) a b = fun _ _ => .dead := rfl
@[go_sem] theorem hpL_purge1 (lev : Nat) (os os' : List (Nat × AObj)) (H : Hp) (a b : Nat) : hpL lev os ((hpL lev os' H).purge a b) = hpL lev os (H.purge a b) := by
  funext l t
  unfold hpL Hp.purge
  cases h : l == lev <;> simp [h]
@[go_sem] theorem hpL_purge2 (lev : Nat) (os os' : List (Nat × AObj)) (H : Hp) (a b c d : Nat) : hpL lev os (((hpL lev os' H).purge a b).purge c d) = hpL lev os ((H.purge a b).purge c d) := by
  funext l t
  unfold hpL Hp.purge
  cases h : l == lev <;> simp [h]
def resWB (P : Program) (lev : Nat) (σ : St) (t off : Nat) (r : List ResultVar) : AObj → Option (List AVal × St)
  | .box cs => (szOf P t).bind fun n => (aggOf P t).bind fun g => (ldCells g n σ (cs.drop off)).bind fun y => (frzR lev y.2 y.1).bind fun p => (resW P lev p.2 r).map fun q => (p.1 :: q.1, q.2)
  | _ => none
def resWC (P : Program) (lev : Nat) (σ : St) (t : Nat) (r : List ResultVar) : AVal → Option (List AVal × St)
  | .ptr l s off => resWB P lev σ t off r (σ.H l s)
  | _ => none
@[go_sem] theorem resW_cell (P : Program) (lev : Nat) (σ : St) (a t : Nat) (r : List ResultVar) : resW P lev σ (.cell a t :: r) = resWC P lev σ t r (lk σ.T a) := by
  simp only [resW]
  cases lk σ.T a <;> simp only [resWC]
  rename_i l s off
  cases σ.H l s <;> rfl
@[go_sem] theorem resWC_ptr (P : Program) (lev : Nat) (σ : St) (t : Nat) (r : List ResultVar) (l s off : Nat) : resWC P lev σ t r (.ptr l s off) = resWB P lev σ t off r (σ.H l s) := rfl
@[go_sem] theorem resWB_box (P : Program) (lev : Nat) (σ : St) (t off : Nat) (r : List ResultVar) (cs : List AVal) : resWB P lev σ t off r (.box cs) = (szOf P t).bind fun n => (aggOf P t).bind fun g => (ldCells g n σ (cs.drop off)).bind fun y => (frzR lev y.2 y.1).bind fun p => (resW P lev p.2 r).map fun q => (p.1 :: q.1, q.2) := rfl
@[go_sem] theorem frzM_t (m : List Bool) (σ : St) (x : AVal) (r : List AVal) : frzM (true :: m) σ (x :: r) = (frzV σ x).bind fun p => (frzM m p.2 r).map fun q => (.d p.1 :: q.1, q.2) := rfl
@[go_sem] theorem frzM_f (m : List Bool) (σ : St) (x : AVal) (r : List AVal) : frzM (false :: m) σ (x :: r) = (frzM m σ r).map fun q => (x :: q.1, q.2) := rfl
@[go_sem] theorem frzM_0 (σ : St) (x : AVal) (r : List AVal) : frzM [] σ (x :: r) = some (x :: r, σ) := rfl
@[go_sem] theorem frzM_e (m : List Bool) (σ : St) : frzM m σ [] = some ([], σ) := by cases m with | nil => rfl | cons b m => cases b <;> rfl
@[go_sem] theorem max_int (P : Program) (ts : Array TypeId) (ty : TypeId) (cs : Array Bool) (a b : Int) : builtinV P .max ts ty cs [.int .i64 a, .int .i64 b] = some (.int .i64 (max a b)) := by
  have e : (if b > a then b else a) = max a b := by split <;> omega
  have : pr P (builtin .max ts ty cs ⟨[.int .i64 a, .int .i64 b]⟩) = some (.value (.int .i64 (max a b))) := pr_of fun w => by
    rw [← e]
    simp [builtin, Builtin.max_, Builtin.max2]
  unfold builtinV
  rw [this]; rfl
@[go_sem] theorem min_int (P : Program) (ts : Array TypeId) (ty : TypeId) (cs : Array Bool) (a b : Int) : builtinV P .min ts ty cs [.int .i64 a, .int .i64 b] = some (.int .i64 (min a b)) := by
  have e : (if b < a then b else a) = min a b := by split <;> omega
  have : pr P (builtin .min ts ty cs ⟨[.int .i64 a, .int .i64 b]⟩) = some (.value (.int .i64 (min a b))) := pr_of fun w => by
    rw [← e]
    simp [builtin, Builtin.min_, Builtin.min2]
  unfold builtinV
  rw [this]; rfl
attribute [go_sem] Option.map_some Bool.true_or Bool.or_true Bool.false_or Bool.or_false Bool.false_eq_true Bool.true_eq_false decide_true decide_false and_self List.length_map Int.toNat_natCast Int.ofNat_lt Int.ofNat_le Nat.sub_zero
end Go.Fw
/- Facts on the program's types, for simp. Printed by a program of this session out of the translation's table. -/
set_option maxRecDepth 100000
namespace Go.Proofs.Ytpgnhajindbhlaa.Ty
open Go Go.Fw Go.Proofs
@[go_sem] theorem tyS_1 : tyS Try.prog 1 = some (1, 8, .nilFunc) := by kernel_rfl
@[go_sem] theorem szOf_1 : szOf Try.prog 1 = some 1 := by kernel_rfl
@[go_sem] theorem aggOf_1 : aggOf Try.prog 1 = some false := by kernel_rfl
@[go_sem] theorem tyS_2 : tyS Try.prog 2 = some (1, 8, .int .i64 0) := by kernel_rfl
@[go_sem] theorem szOf_2 : szOf Try.prog 2 = some 1 := by kernel_rfl
@[go_sem] theorem aggOf_2 : aggOf Try.prog 2 = some false := by kernel_rfl
@[go_sem] theorem isStr_2 : isStr Try.prog 2 = false := by kernel_rfl
@[go_sem] theorem isU8_2 : isU8 Try.prog 2 = false := by kernel_rfl
@[go_sem] theorem tyS_3 : tyS Try.prog 3 = some (1, 8, .int .i64 0) := by kernel_rfl
@[go_sem] theorem szOf_3 : szOf Try.prog 3 = some 1 := by kernel_rfl
@[go_sem] theorem aggOf_3 : aggOf Try.prog 3 = some false := by kernel_rfl
@[go_sem] theorem isStr_3 : isStr Try.prog 3 = false := by kernel_rfl
@[go_sem] theorem isU8_3 : isU8 Try.prog 3 = false := by kernel_rfl
@[go_sem] theorem tyS_4 : tyS Try.prog 4 = some (1, 1, .bool false) := by kernel_rfl
@[go_sem] theorem szOf_4 : szOf Try.prog 4 = some 1 := by kernel_rfl
@[go_sem] theorem aggOf_4 : aggOf Try.prog 4 = some false := by kernel_rfl
@[go_sem] theorem tyS_5 : tyS Try.prog 5 = some (1, 1, .int .u8 0) := by kernel_rfl
@[go_sem] theorem szOf_5 : szOf Try.prog 5 = some 1 := by kernel_rfl
@[go_sem] theorem aggOf_5 : aggOf Try.prog 5 = some false := by kernel_rfl
@[go_sem] theorem isStr_5 : isStr Try.prog 5 = false := by kernel_rfl
@[go_sem] theorem isU8_5 : isU8 Try.prog 5 = false := by kernel_rfl
@[go_sem] theorem tyS_6 : tyS Try.prog 6 = some (1, 1, .int .u8 0) := by kernel_rfl
@[go_sem] theorem szOf_6 : szOf Try.prog 6 = some 1 := by kernel_rfl
@[go_sem] theorem aggOf_6 : aggOf Try.prog 6 = some false := by kernel_rfl
@[go_sem] theorem isStr_6 : isStr Try.prog 6 = false := by kernel_rfl
@[go_sem] theorem isU8_6 : isU8 Try.prog 6 = false := by kernel_rfl
@[go_sem] theorem tyS_7 : tyS Try.prog 7 = some (4, 24, .agg #[.int .i64 0, .int .i64 0, .bool false, .int .u8 0]) := by kernel_rfl
@[go_sem] theorem szOf_7 : szOf Try.prog 7 = some 4 := by kernel_rfl
@[go_sem] theorem aggOf_7 : aggOf Try.prog 7 = some true := by kernel_rfl
@[go_sem] theorem placesOf_7 : placesOf Try.prog 7 = some [(0, 1), (1, 1), (2, 1), (3, 1)] := by kernel_rfl
@[go_sem] theorem fldOf_7_0 : fldOf Try.prog 7 0 = some (0, 2) := by kernel_rfl
@[go_sem] theorem fldOf_7_1 : fldOf Try.prog 7 1 = some (1, 3) := by kernel_rfl
@[go_sem] theorem fldOf_7_2 : fldOf Try.prog 7 2 = some (2, 4) := by kernel_rfl
@[go_sem] theorem fldOf_7_3 : fldOf Try.prog 7 3 = some (3, 6) := by kernel_rfl
@[go_sem] theorem tyS_8 : tyS Try.prog 8 = some (4, 24, .agg #[.int .i64 0, .int .i64 0, .bool false, .int .u8 0]) := by kernel_rfl
@[go_sem] theorem szOf_8 : szOf Try.prog 8 = some 4 := by kernel_rfl
@[go_sem] theorem aggOf_8 : aggOf Try.prog 8 = some true := by kernel_rfl
@[go_sem] theorem placesOf_8 : placesOf Try.prog 8 = some [(0, 1), (1, 1), (2, 1), (3, 1)] := by kernel_rfl
@[go_sem] theorem fldOf_8_0 : fldOf Try.prog 8 0 = some (0, 2) := by kernel_rfl
@[go_sem] theorem fldOf_8_1 : fldOf Try.prog 8 1 = some (1, 3) := by kernel_rfl
@[go_sem] theorem fldOf_8_2 : fldOf Try.prog 8 2 = some (2, 4) := by kernel_rfl
@[go_sem] theorem fldOf_8_3 : fldOf Try.prog 8 3 = some (3, 6) := by kernel_rfl
@[go_sem] theorem tyS_9 : tyS Try.prog 9 = some (1, 16, .string ⟨#[]⟩) := by kernel_rfl
@[go_sem] theorem szOf_9 : szOf Try.prog 9 = some 1 := by kernel_rfl
@[go_sem] theorem aggOf_9 : aggOf Try.prog 9 = some false := by kernel_rfl
@[go_sem] theorem notInt_9 : notInt Try.prog 9 = true := by kernel_rfl
@[go_sem] theorem isStr_9 : isStr Try.prog 9 = true := by kernel_rfl
@[go_sem] theorem isU8_9 : isU8 Try.prog 9 = false := by kernel_rfl
@[go_sem] theorem tyS_10 : tyS Try.prog 10 = some (1, 16, .string ⟨#[]⟩) := by kernel_rfl
@[go_sem] theorem szOf_10 : szOf Try.prog 10 = some 1 := by kernel_rfl
@[go_sem] theorem aggOf_10 : aggOf Try.prog 10 = some false := by kernel_rfl
@[go_sem] theorem notInt_10 : notInt Try.prog 10 = true := by kernel_rfl
@[go_sem] theorem isStr_10 : isStr Try.prog 10 = true := by kernel_rfl
@[go_sem] theorem isU8_10 : isU8 Try.prog 10 = false := by kernel_rfl
@[go_sem] theorem tyS_11 : tyS Try.prog 11 = some (1, 16, .string ⟨#[]⟩) := by kernel_rfl
@[go_sem] theorem szOf_11 : szOf Try.prog 11 = some 1 := by kernel_rfl
@[go_sem] theorem aggOf_11 : aggOf Try.prog 11 = some false := by kernel_rfl
@[go_sem] theorem notInt_11 : notInt Try.prog 11 = true := by kernel_rfl
@[go_sem] theorem isStr_11 : isStr Try.prog 11 = true := by kernel_rfl
@[go_sem] theorem isU8_11 : isU8 Try.prog 11 = false := by kernel_rfl
@[go_sem] theorem tyS_12 : tyS Try.prog 12 = some (1, 8, .int .u64 0) := by kernel_rfl
@[go_sem] theorem szOf_12 : szOf Try.prog 12 = some 1 := by kernel_rfl
@[go_sem] theorem aggOf_12 : aggOf Try.prog 12 = some false := by kernel_rfl
@[go_sem] theorem isStr_12 : isStr Try.prog 12 = false := by kernel_rfl
@[go_sem] theorem isU8_12 : isU8 Try.prog 12 = false := by kernel_rfl
@[go_sem] theorem tyS_13 : tyS Try.prog 13 = some (2, 24, .agg #[.string ⟨#[]⟩, .int .u64 0]) := by kernel_rfl
@[go_sem] theorem szOf_13 : szOf Try.prog 13 = some 2 := by kernel_rfl
@[go_sem] theorem aggOf_13 : aggOf Try.prog 13 = some true := by kernel_rfl
@[go_sem] theorem placesOf_13 : placesOf Try.prog 13 = some [(0, 1), (1, 1)] := by kernel_rfl
@[go_sem] theorem fldOf_13_0 : fldOf Try.prog 13 0 = some (0, 9) := by kernel_rfl
@[go_sem] theorem fldOf_13_1 : fldOf Try.prog 13 1 = some (1, 12) := by kernel_rfl
@[go_sem] theorem tyS_14 : tyS Try.prog 14 = some (2, 24, .agg #[.string ⟨#[]⟩, .int .u64 0]) := by kernel_rfl
@[go_sem] theorem szOf_14 : szOf Try.prog 14 = some 2 := by kernel_rfl
@[go_sem] theorem aggOf_14 : aggOf Try.prog 14 = some true := by kernel_rfl
@[go_sem] theorem placesOf_14 : placesOf Try.prog 14 = some [(0, 1), (1, 1)] := by kernel_rfl
@[go_sem] theorem fldOf_14_0 : fldOf Try.prog 14 0 = some (0, 9) := by kernel_rfl
@[go_sem] theorem fldOf_14_1 : fldOf Try.prog 14 1 = some (1, 12) := by kernel_rfl
@[go_sem] theorem tyS_15 : tyS Try.prog 15 = some (1, 8, .pointer none) := by kernel_rfl
@[go_sem] theorem szOf_15 : szOf Try.prog 15 = some 1 := by kernel_rfl
@[go_sem] theorem aggOf_15 : aggOf Try.prog 15 = some false := by kernel_rfl
@[go_sem] theorem tyS_16 : tyS Try.prog 16 = some (1, 8, .pointer none) := by kernel_rfl
@[go_sem] theorem szOf_16 : szOf Try.prog 16 = some 1 := by kernel_rfl
@[go_sem] theorem aggOf_16 : aggOf Try.prog 16 = some false := by kernel_rfl
@[go_sem] theorem tyS_17 : tyS Try.prog 17 = some (1, 8, .pointer none) := by kernel_rfl
@[go_sem] theorem szOf_17 : szOf Try.prog 17 = some 1 := by kernel_rfl
@[go_sem] theorem aggOf_17 : aggOf Try.prog 17 = some false := by kernel_rfl
@[go_sem] theorem tyS_18 : tyS Try.prog 18 = some (1, 8, .agg #[.pointer none]) := by kernel_rfl
@[go_sem] theorem szOf_18 : szOf Try.prog 18 = some 1 := by kernel_rfl
@[go_sem] theorem aggOf_18 : aggOf Try.prog 18 = some true := by kernel_rfl
@[go_sem] theorem placesOf_18 : placesOf Try.prog 18 = some [(0, 1)] := by kernel_rfl
@[go_sem] theorem fldOf_18_0 : fldOf Try.prog 18 0 = some (0, 17) := by kernel_rfl
@[go_sem] theorem tyS_19 : tyS Try.prog 19 = some (1, 8, .agg #[.pointer none]) := by kernel_rfl
@[go_sem] theorem szOf_19 : szOf Try.prog 19 = some 1 := by kernel_rfl
@[go_sem] theorem aggOf_19 : aggOf Try.prog 19 = some true := by kernel_rfl
@[go_sem] theorem placesOf_19 : placesOf Try.prog 19 = some [(0, 1)] := by kernel_rfl
@[go_sem] theorem fldOf_19_0 : fldOf Try.prog 19 0 = some (0, 17) := by kernel_rfl
@[go_sem] theorem tyS_20 : tyS Try.prog 20 = some (1, 16, .nilIface) := by kernel_rfl
@[go_sem] theorem szOf_20 : szOf Try.prog 20 = some 1 := by kernel_rfl
@[go_sem] theorem aggOf_20 : aggOf Try.prog 20 = some false := by kernel_rfl
@[go_sem] theorem tyS_21 : tyS Try.prog 21 = some (1, 4, .int .i32 0) := by kernel_rfl
@[go_sem] theorem szOf_21 : szOf Try.prog 21 = some 1 := by kernel_rfl
@[go_sem] theorem aggOf_21 : aggOf Try.prog 21 = some false := by kernel_rfl
@[go_sem] theorem isStr_21 : isStr Try.prog 21 = false := by kernel_rfl
@[go_sem] theorem isU8_21 : isU8 Try.prog 21 = false := by kernel_rfl
@[go_sem] theorem tyS_22 : tyS Try.prog 22 = some (1, 24, .slice none 0 0) := by kernel_rfl
@[go_sem] theorem szOf_22 : szOf Try.prog 22 = some 1 := by kernel_rfl
@[go_sem] theorem aggOf_22 : aggOf Try.prog 22 = some false := by kernel_rfl
@[go_sem] theorem elemOf_22 : elemOf' Try.prog 22 = some 37 := by kernel_rfl
@[go_sem] theorem isSlT_22 : isSlT Try.prog 22 = true := by kernel_rfl
@[go_sem] theorem notInt_22 : notInt Try.prog 22 = true := by kernel_rfl
@[go_sem] theorem isStr_22 : isStr Try.prog 22 = false := by kernel_rfl
@[go_sem] theorem isU8_22 : isU8 Try.prog 22 = false := by kernel_rfl
@[go_sem] theorem tyS_23 : tyS Try.prog 23 = some (2, 16, .agg #[.int .i64 0, .int .i64 0]) := by kernel_rfl
@[go_sem] theorem szOf_23 : szOf Try.prog 23 = some 2 := by kernel_rfl
@[go_sem] theorem aggOf_23 : aggOf Try.prog 23 = some true := by kernel_rfl
@[go_sem] theorem placesOf_23 : placesOf Try.prog 23 = some [(0, 1), (1, 1)] := by kernel_rfl
@[go_sem] theorem fldOf_23_0 : fldOf Try.prog 23 0 = some (0, 3) := by kernel_rfl
@[go_sem] theorem fldOf_23_1 : fldOf Try.prog 23 1 = some (1, 3) := by kernel_rfl
@[go_sem] theorem tyS_24 : tyS Try.prog 24 = some (2, 16, .agg #[.int .i64 0, .int .i64 0]) := by kernel_rfl
@[go_sem] theorem szOf_24 : szOf Try.prog 24 = some 2 := by kernel_rfl
@[go_sem] theorem aggOf_24 : aggOf Try.prog 24 = some true := by kernel_rfl
@[go_sem] theorem placesOf_24 : placesOf Try.prog 24 = some [(0, 1), (1, 1)] := by kernel_rfl
@[go_sem] theorem fldOf_24_0 : fldOf Try.prog 24 0 = some (0, 3) := by kernel_rfl
@[go_sem] theorem fldOf_24_1 : fldOf Try.prog 24 1 = some (1, 3) := by kernel_rfl
@[go_sem] theorem tyS_25 : tyS Try.prog 25 = some (6, 72, .agg #[.string ⟨#[]⟩, .slice none 0 0, .int .i64 0, .int .i64 0, .int .i64 0, .bool false]) := by kernel_rfl
@[go_sem] theorem szOf_25 : szOf Try.prog 25 = some 6 := by kernel_rfl
@[go_sem] theorem aggOf_25 : aggOf Try.prog 25 = some true := by kernel_rfl
@[go_sem] theorem placesOf_25 : placesOf Try.prog 25 = some [(0, 1), (1, 1), (2, 1), (3, 2), (5, 1)] := by kernel_rfl
@[go_sem] theorem fldOf_25_0 : fldOf Try.prog 25 0 = some (0, 9) := by kernel_rfl
@[go_sem] theorem fldOf_25_1 : fldOf Try.prog 25 1 = some (1, 22) := by kernel_rfl
@[go_sem] theorem fldOf_25_2 : fldOf Try.prog 25 2 = some (2, 3) := by kernel_rfl
@[go_sem] theorem fldOf_25_3 : fldOf Try.prog 25 3 = some (3, 24) := by kernel_rfl
@[go_sem] theorem fldOf_25_4 : fldOf Try.prog 25 4 = some (5, 4) := by kernel_rfl
@[go_sem] theorem tyS_26 : tyS Try.prog 26 = some (6, 72, .agg #[.string ⟨#[]⟩, .slice none 0 0, .int .i64 0, .int .i64 0, .int .i64 0, .bool false]) := by kernel_rfl
@[go_sem] theorem szOf_26 : szOf Try.prog 26 = some 6 := by kernel_rfl
@[go_sem] theorem aggOf_26 : aggOf Try.prog 26 = some true := by kernel_rfl
@[go_sem] theorem placesOf_26 : placesOf Try.prog 26 = some [(0, 1), (1, 1), (2, 1), (3, 2), (5, 1)] := by kernel_rfl
@[go_sem] theorem fldOf_26_0 : fldOf Try.prog 26 0 = some (0, 9) := by kernel_rfl
@[go_sem] theorem fldOf_26_1 : fldOf Try.prog 26 1 = some (1, 22) := by kernel_rfl
@[go_sem] theorem fldOf_26_2 : fldOf Try.prog 26 2 = some (2, 3) := by kernel_rfl
@[go_sem] theorem fldOf_26_3 : fldOf Try.prog 26 3 = some (3, 24) := by kernel_rfl
@[go_sem] theorem fldOf_26_4 : fldOf Try.prog 26 4 = some (5, 4) := by kernel_rfl
@[go_sem] theorem tyS_27 : tyS Try.prog 27 = some (2, 16, .agg #[.int .i64 0, .int .i64 0]) := by kernel_rfl
@[go_sem] theorem szOf_27 : szOf Try.prog 27 = some 2 := by kernel_rfl
@[go_sem] theorem aggOf_27 : aggOf Try.prog 27 = some true := by kernel_rfl
@[go_sem] theorem placesOf_27 : placesOf Try.prog 27 = some [(0, 1), (1, 1)] := by kernel_rfl
@[go_sem] theorem fldOf_27_0 : fldOf Try.prog 27 0 = some (0, 3) := by kernel_rfl
@[go_sem] theorem fldOf_27_1 : fldOf Try.prog 27 1 = some (1, 3) := by kernel_rfl
@[go_sem] theorem tyS_28 : tyS Try.prog 28 = some (2, 16, .agg #[.int .i64 0, .int .i64 0]) := by kernel_rfl
@[go_sem] theorem szOf_28 : szOf Try.prog 28 = some 2 := by kernel_rfl
@[go_sem] theorem aggOf_28 : aggOf Try.prog 28 = some true := by kernel_rfl
@[go_sem] theorem placesOf_28 : placesOf Try.prog 28 = some [(0, 1), (1, 1)] := by kernel_rfl
@[go_sem] theorem fldOf_28_0 : fldOf Try.prog 28 0 = some (0, 3) := by kernel_rfl
@[go_sem] theorem fldOf_28_1 : fldOf Try.prog 28 1 = some (1, 3) := by kernel_rfl
@[go_sem] theorem tyS_30 : tyS Try.prog 30 = some (1, 8, .nilFunc) := by kernel_rfl
@[go_sem] theorem szOf_30 : szOf Try.prog 30 = some 1 := by kernel_rfl
@[go_sem] theorem aggOf_30 : aggOf Try.prog 30 = some false := by kernel_rfl
@[go_sem] theorem tyS_32 : tyS Try.prog 32 = some (1, 8, .nilFunc) := by kernel_rfl
@[go_sem] theorem szOf_32 : szOf Try.prog 32 = some 1 := by kernel_rfl
@[go_sem] theorem aggOf_32 : aggOf Try.prog 32 = some false := by kernel_rfl
@[go_sem] theorem tyS_33 : tyS Try.prog 33 = some (1, 8, .nilFunc) := by kernel_rfl
@[go_sem] theorem szOf_33 : szOf Try.prog 33 = some 1 := by kernel_rfl
@[go_sem] theorem aggOf_33 : aggOf Try.prog 33 = some false := by kernel_rfl
@[go_sem] theorem tyS_34 : tyS Try.prog 34 = some (1, 8, .nilFunc) := by kernel_rfl
@[go_sem] theorem szOf_34 : szOf Try.prog 34 = some 1 := by kernel_rfl
@[go_sem] theorem aggOf_34 : aggOf Try.prog 34 = some false := by kernel_rfl
@[go_sem] theorem tyS_35 : tyS Try.prog 35 = some (1, 8, .nilFunc) := by kernel_rfl
@[go_sem] theorem szOf_35 : szOf Try.prog 35 = some 1 := by kernel_rfl
@[go_sem] theorem aggOf_35 : aggOf Try.prog 35 = some false := by kernel_rfl
@[go_sem] theorem tyS_36 : tyS Try.prog 36 = some (4, 40, .agg #[.string ⟨#[]⟩, .int .i64 0, .int .i64 0, .int .i64 0]) := by kernel_rfl
@[go_sem] theorem szOf_36 : szOf Try.prog 36 = some 4 := by kernel_rfl
@[go_sem] theorem aggOf_36 : aggOf Try.prog 36 = some true := by kernel_rfl
@[go_sem] theorem placesOf_36 : placesOf Try.prog 36 = some [(0, 1), (1, 1), (2, 2)] := by kernel_rfl
@[go_sem] theorem fldOf_36_0 : fldOf Try.prog 36 0 = some (0, 9) := by kernel_rfl
@[go_sem] theorem fldOf_36_1 : fldOf Try.prog 36 1 = some (1, 3) := by kernel_rfl
@[go_sem] theorem fldOf_36_2 : fldOf Try.prog 36 2 = some (2, 24) := by kernel_rfl
@[go_sem] theorem tyS_37 : tyS Try.prog 37 = some (4, 40, .agg #[.string ⟨#[]⟩, .int .i64 0, .int .i64 0, .int .i64 0]) := by kernel_rfl
@[go_sem] theorem szOf_37 : szOf Try.prog 37 = some 4 := by kernel_rfl
@[go_sem] theorem aggOf_37 : aggOf Try.prog 37 = some true := by kernel_rfl
@[go_sem] theorem placesOf_37 : placesOf Try.prog 37 = some [(0, 1), (1, 1), (2, 2)] := by kernel_rfl
@[go_sem] theorem fldOf_37_0 : fldOf Try.prog 37 0 = some (0, 9) := by kernel_rfl
@[go_sem] theorem fldOf_37_1 : fldOf Try.prog 37 1 = some (1, 3) := by kernel_rfl
@[go_sem] theorem fldOf_37_2 : fldOf Try.prog 37 2 = some (2, 24) := by kernel_rfl
@[go_sem] theorem tyS_38 : tyS Try.prog 38 = some (1, 8, .nilFunc) := by kernel_rfl
@[go_sem] theorem szOf_38 : szOf Try.prog 38 = some 1 := by kernel_rfl
@[go_sem] theorem aggOf_38 : aggOf Try.prog 38 = some false := by kernel_rfl
@[go_sem] theorem tyS_39 : tyS Try.prog 39 = some (1, 8, .nilFunc) := by kernel_rfl
@[go_sem] theorem szOf_39 : szOf Try.prog 39 = some 1 := by kernel_rfl
@[go_sem] theorem aggOf_39 : aggOf Try.prog 39 = some false := by kernel_rfl
@[go_sem] theorem tyS_40 : tyS Try.prog 40 = some (1, 8, .nilFunc) := by kernel_rfl
@[go_sem] theorem szOf_40 : szOf Try.prog 40 = some 1 := by kernel_rfl
@[go_sem] theorem aggOf_40 : aggOf Try.prog 40 = some false := by kernel_rfl
@[go_sem] theorem tyS_41 : tyS Try.prog 41 = some (1, 8, .nilFunc) := by kernel_rfl
@[go_sem] theorem szOf_41 : szOf Try.prog 41 = some 1 := by kernel_rfl
@[go_sem] theorem aggOf_41 : aggOf Try.prog 41 = some false := by kernel_rfl
@[go_sem] theorem tyS_42 : tyS Try.prog 42 = some (1, 8, .nilFunc) := by kernel_rfl
@[go_sem] theorem szOf_42 : szOf Try.prog 42 = some 1 := by kernel_rfl
@[go_sem] theorem aggOf_42 : aggOf Try.prog 42 = some false := by kernel_rfl
@[go_sem] theorem tyS_43 : tyS Try.prog 43 = some (1, 8, .nilFunc) := by kernel_rfl
@[go_sem] theorem szOf_43 : szOf Try.prog 43 = some 1 := by kernel_rfl
@[go_sem] theorem aggOf_43 : aggOf Try.prog 43 = some false := by kernel_rfl
@[go_sem] theorem tyS_44 : tyS Try.prog 44 = some (1, 8, .nilFunc) := by kernel_rfl
@[go_sem] theorem szOf_44 : szOf Try.prog 44 = some 1 := by kernel_rfl
@[go_sem] theorem aggOf_44 : aggOf Try.prog 44 = some false := by kernel_rfl
@[go_sem] theorem tyS_45 : tyS Try.prog 45 = some (1, 8, .nilFunc) := by kernel_rfl
@[go_sem] theorem szOf_45 : szOf Try.prog 45 = some 1 := by kernel_rfl
@[go_sem] theorem aggOf_45 : aggOf Try.prog 45 = some false := by kernel_rfl
@[go_sem] theorem tyS_46 : tyS Try.prog 46 = some (1, 8, .nilFunc) := by kernel_rfl
@[go_sem] theorem szOf_46 : szOf Try.prog 46 = some 1 := by kernel_rfl
@[go_sem] theorem aggOf_46 : aggOf Try.prog 46 = some false := by kernel_rfl
@[go_sem] theorem tyS_47 : tyS Try.prog 47 = some (1, 8, .nilFunc) := by kernel_rfl
@[go_sem] theorem szOf_47 : szOf Try.prog 47 = some 1 := by kernel_rfl
@[go_sem] theorem aggOf_47 : aggOf Try.prog 47 = some false := by kernel_rfl
@[go_sem] theorem tyS_49 : tyS Try.prog 49 = some (1, 8, .nilFunc) := by kernel_rfl
@[go_sem] theorem szOf_49 : szOf Try.prog 49 = some 1 := by kernel_rfl
@[go_sem] theorem aggOf_49 : aggOf Try.prog 49 = some false := by kernel_rfl
@[go_sem] theorem tyS_50 : tyS Try.prog 50 = some (1, 8, .nilFunc) := by kernel_rfl
@[go_sem] theorem szOf_50 : szOf Try.prog 50 = some 1 := by kernel_rfl
@[go_sem] theorem aggOf_50 : aggOf Try.prog 50 = some false := by kernel_rfl
@[go_sem] theorem tyS_51 : tyS Try.prog 51 = some (1, 24, .slice none 0 0) := by kernel_rfl
@[go_sem] theorem szOf_51 : szOf Try.prog 51 = some 1 := by kernel_rfl
@[go_sem] theorem aggOf_51 : aggOf Try.prog 51 = some false := by kernel_rfl
@[go_sem] theorem elemOf_51 : elemOf' Try.prog 51 = some 24 := by kernel_rfl
@[go_sem] theorem isSlT_51 : isSlT Try.prog 51 = true := by kernel_rfl
@[go_sem] theorem notInt_51 : notInt Try.prog 51 = true := by kernel_rfl
@[go_sem] theorem isStr_51 : isStr Try.prog 51 = false := by kernel_rfl
@[go_sem] theorem isU8_51 : isU8 Try.prog 51 = false := by kernel_rfl
@[go_sem] theorem tyS_53 : tyS Try.prog 53 = some (1, 8, .nilFunc) := by kernel_rfl
@[go_sem] theorem szOf_53 : szOf Try.prog 53 = some 1 := by kernel_rfl
@[go_sem] theorem aggOf_53 : aggOf Try.prog 53 = some false := by kernel_rfl
@[go_sem] theorem tyS_54 : tyS Try.prog 54 = some (1, 8, .nilFunc) := by kernel_rfl
@[go_sem] theorem szOf_54 : szOf Try.prog 54 = some 1 := by kernel_rfl
@[go_sem] theorem aggOf_54 : aggOf Try.prog 54 = some false := by kernel_rfl
@[go_sem] theorem tyS_55 : tyS Try.prog 55 = some (1, 8, .nilFunc) := by kernel_rfl
@[go_sem] theorem szOf_55 : szOf Try.prog 55 = some 1 := by kernel_rfl
@[go_sem] theorem aggOf_55 : aggOf Try.prog 55 = some false := by kernel_rfl
@[go_sem] theorem tyS_56 : tyS Try.prog 56 = some (1, 8, .nilFunc) := by kernel_rfl
@[go_sem] theorem szOf_56 : szOf Try.prog 56 = some 1 := by kernel_rfl
@[go_sem] theorem aggOf_56 : aggOf Try.prog 56 = some false := by kernel_rfl
@[go_sem] theorem tyS_57 : tyS Try.prog 57 = some (1, 8, .nilFunc) := by kernel_rfl
@[go_sem] theorem szOf_57 : szOf Try.prog 57 = some 1 := by kernel_rfl
@[go_sem] theorem aggOf_57 : aggOf Try.prog 57 = some false := by kernel_rfl
@[go_sem] theorem tyS_58 : tyS Try.prog 58 = some (1, 8, .nilFunc) := by kernel_rfl
@[go_sem] theorem szOf_58 : szOf Try.prog 58 = some 1 := by kernel_rfl
@[go_sem] theorem aggOf_58 : aggOf Try.prog 58 = some false := by kernel_rfl
@[go_sem] theorem tyS_59 : tyS Try.prog 59 = some (1, 8, .nilFunc) := by kernel_rfl
@[go_sem] theorem szOf_59 : szOf Try.prog 59 = some 1 := by kernel_rfl
@[go_sem] theorem aggOf_59 : aggOf Try.prog 59 = some false := by kernel_rfl
@[go_sem] theorem tyS_60 : tyS Try.prog 60 = some (1, 8, .nilFunc) := by kernel_rfl
@[go_sem] theorem szOf_60 : szOf Try.prog 60 = some 1 := by kernel_rfl
@[go_sem] theorem aggOf_60 : aggOf Try.prog 60 = some false := by kernel_rfl
@[go_sem] theorem tyS_61 : tyS Try.prog 61 = some (1, 8, .nilFunc) := by kernel_rfl
@[go_sem] theorem szOf_61 : szOf Try.prog 61 = some 1 := by kernel_rfl
@[go_sem] theorem aggOf_61 : aggOf Try.prog 61 = some false := by kernel_rfl
@[go_sem] theorem tyS_62 : tyS Try.prog 62 = some (1, 24, .slice none 0 0) := by kernel_rfl
@[go_sem] theorem szOf_62 : szOf Try.prog 62 = some 1 := by kernel_rfl
@[go_sem] theorem aggOf_62 : aggOf Try.prog 62 = some false := by kernel_rfl
@[go_sem] theorem elemOf_62 : elemOf' Try.prog 62 = some 51 := by kernel_rfl
@[go_sem] theorem isSlT_62 : isSlT Try.prog 62 = true := by kernel_rfl
@[go_sem] theorem notInt_62 : notInt Try.prog 62 = true := by kernel_rfl
@[go_sem] theorem isStr_62 : isStr Try.prog 62 = false := by kernel_rfl
@[go_sem] theorem isU8_62 : isU8 Try.prog 62 = false := by kernel_rfl
@[go_sem] theorem tyS_64 : tyS Try.prog 64 = some (1, 8, .nilFunc) := by kernel_rfl
@[go_sem] theorem szOf_64 : szOf Try.prog 64 = some 1 := by kernel_rfl
@[go_sem] theorem aggOf_64 : aggOf Try.prog 64 = some false := by kernel_rfl
@[go_sem] theorem tyS_65 : tyS Try.prog 65 = some (1, 8, .nilFunc) := by kernel_rfl
@[go_sem] theorem szOf_65 : szOf Try.prog 65 = some 1 := by kernel_rfl
@[go_sem] theorem aggOf_65 : aggOf Try.prog 65 = some false := by kernel_rfl
@[go_sem] theorem tyS_66 : tyS Try.prog 66 = some (1, 24, .slice none 0 0) := by kernel_rfl
@[go_sem] theorem szOf_66 : szOf Try.prog 66 = some 1 := by kernel_rfl
@[go_sem] theorem aggOf_66 : aggOf Try.prog 66 = some false := by kernel_rfl
@[go_sem] theorem elemOf_66 : elemOf' Try.prog 66 = some 81 := by kernel_rfl
@[go_sem] theorem isSlT_66 : isSlT Try.prog 66 = true := by kernel_rfl
@[go_sem] theorem notInt_66 : notInt Try.prog 66 = true := by kernel_rfl
@[go_sem] theorem isStr_66 : isStr Try.prog 66 = false := by kernel_rfl
@[go_sem] theorem isU8_66 : isU8 Try.prog 66 = false := by kernel_rfl
@[go_sem] theorem tyS_67 : tyS Try.prog 67 = some (1, 24, .slice none 0 0) := by kernel_rfl
@[go_sem] theorem szOf_67 : szOf Try.prog 67 = some 1 := by kernel_rfl
@[go_sem] theorem aggOf_67 : aggOf Try.prog 67 = some false := by kernel_rfl
@[go_sem] theorem elemOf_67 : elemOf' Try.prog 67 = some 73 := by kernel_rfl
@[go_sem] theorem isSlT_67 : isSlT Try.prog 67 = true := by kernel_rfl
@[go_sem] theorem notInt_67 : notInt Try.prog 67 = true := by kernel_rfl
@[go_sem] theorem isStr_67 : isStr Try.prog 67 = false := by kernel_rfl
@[go_sem] theorem isU8_67 : isU8 Try.prog 67 = false := by kernel_rfl
@[go_sem] theorem tyS_68 : tyS Try.prog 68 = some (1, 8, .nilFunc) := by kernel_rfl
@[go_sem] theorem szOf_68 : szOf Try.prog 68 = some 1 := by kernel_rfl
@[go_sem] theorem aggOf_68 : aggOf Try.prog 68 = some false := by kernel_rfl
@[go_sem] theorem tyS_69 : tyS Try.prog 69 = some (1, 8, .nilFunc) := by kernel_rfl
@[go_sem] theorem szOf_69 : szOf Try.prog 69 = some 1 := by kernel_rfl
@[go_sem] theorem aggOf_69 : aggOf Try.prog 69 = some false := by kernel_rfl
@[go_sem] theorem tyS_70 : tyS Try.prog 70 = some (4, 32, .agg #[.int .i64 0, .int .i64 0, .int .i64 0, .int .i64 0]) := by kernel_rfl
@[go_sem] theorem szOf_70 : szOf Try.prog 70 = some 4 := by kernel_rfl
@[go_sem] theorem aggOf_70 : aggOf Try.prog 70 = some true := by kernel_rfl
@[go_sem] theorem placesOf_70 : placesOf Try.prog 70 = some [(0, 1), (1, 1), (2, 1), (3, 1)] := by kernel_rfl
@[go_sem] theorem fldOf_70_0 : fldOf Try.prog 70 0 = some (0, 3) := by kernel_rfl
@[go_sem] theorem fldOf_70_1 : fldOf Try.prog 70 1 = some (1, 3) := by kernel_rfl
@[go_sem] theorem fldOf_70_2 : fldOf Try.prog 70 2 = some (2, 3) := by kernel_rfl
@[go_sem] theorem fldOf_70_3 : fldOf Try.prog 70 3 = some (3, 3) := by kernel_rfl
@[go_sem] theorem tyS_71 : tyS Try.prog 71 = some (4, 32, .agg #[.int .i64 0, .int .i64 0, .int .i64 0, .int .i64 0]) := by kernel_rfl
@[go_sem] theorem szOf_71 : szOf Try.prog 71 = some 4 := by kernel_rfl
@[go_sem] theorem aggOf_71 : aggOf Try.prog 71 = some true := by kernel_rfl
@[go_sem] theorem placesOf_71 : placesOf Try.prog 71 = some [(0, 1), (1, 1), (2, 1), (3, 1)] := by kernel_rfl
@[go_sem] theorem fldOf_71_0 : fldOf Try.prog 71 0 = some (0, 3) := by kernel_rfl
@[go_sem] theorem fldOf_71_1 : fldOf Try.prog 71 1 = some (1, 3) := by kernel_rfl
@[go_sem] theorem fldOf_71_2 : fldOf Try.prog 71 2 = some (2, 3) := by kernel_rfl
@[go_sem] theorem fldOf_71_3 : fldOf Try.prog 71 3 = some (3, 3) := by kernel_rfl
@[go_sem] theorem tyS_72 : tyS Try.prog 72 = some (11, 96, .agg #[.string ⟨#[]⟩, .int .i64 0, .int .i64 0, .int .i64 0, .int .i64 0, .int .i64 0, .int .i64 0, .int .i64 0, .int .i64 0, .int .i64 0, .int .i64 0]) := by kernel_rfl
@[go_sem] theorem szOf_72 : szOf Try.prog 72 = some 11 := by kernel_rfl
@[go_sem] theorem aggOf_72 : aggOf Try.prog 72 = some true := by kernel_rfl
@[go_sem] theorem placesOf_72 : placesOf Try.prog 72 = some [(0, 1), (1, 1), (2, 1), (3, 4), (7, 4)] := by kernel_rfl
@[go_sem] theorem fldOf_72_0 : fldOf Try.prog 72 0 = some (0, 9) := by kernel_rfl
@[go_sem] theorem fldOf_72_1 : fldOf Try.prog 72 1 = some (1, 3) := by kernel_rfl
@[go_sem] theorem fldOf_72_2 : fldOf Try.prog 72 2 = some (2, 3) := by kernel_rfl
@[go_sem] theorem fldOf_72_3 : fldOf Try.prog 72 3 = some (3, 71) := by kernel_rfl
@[go_sem] theorem fldOf_72_4 : fldOf Try.prog 72 4 = some (7, 71) := by kernel_rfl
@[go_sem] theorem tyS_73 : tyS Try.prog 73 = some (11, 96, .agg #[.string ⟨#[]⟩, .int .i64 0, .int .i64 0, .int .i64 0, .int .i64 0, .int .i64 0, .int .i64 0, .int .i64 0, .int .i64 0, .int .i64 0, .int .i64 0]) := by kernel_rfl
@[go_sem] theorem szOf_73 : szOf Try.prog 73 = some 11 := by kernel_rfl
@[go_sem] theorem aggOf_73 : aggOf Try.prog 73 = some true := by kernel_rfl
@[go_sem] theorem placesOf_73 : placesOf Try.prog 73 = some [(0, 1), (1, 1), (2, 1), (3, 4), (7, 4)] := by kernel_rfl
@[go_sem] theorem fldOf_73_0 : fldOf Try.prog 73 0 = some (0, 9) := by kernel_rfl
@[go_sem] theorem fldOf_73_1 : fldOf Try.prog 73 1 = some (1, 3) := by kernel_rfl
@[go_sem] theorem fldOf_73_2 : fldOf Try.prog 73 2 = some (2, 3) := by kernel_rfl
@[go_sem] theorem fldOf_73_3 : fldOf Try.prog 73 3 = some (3, 71) := by kernel_rfl
@[go_sem] theorem fldOf_73_4 : fldOf Try.prog 73 4 = some (7, 71) := by kernel_rfl
@[go_sem] theorem tyS_74 : tyS Try.prog 74 = some (1, 24, .slice none 0 0) := by kernel_rfl
@[go_sem] theorem szOf_74 : szOf Try.prog 74 = some 1 := by kernel_rfl
@[go_sem] theorem aggOf_74 : aggOf Try.prog 74 = some false := by kernel_rfl
@[go_sem] theorem elemOf_74 : elemOf' Try.prog 74 = some 184 := by kernel_rfl
@[go_sem] theorem isSlT_74 : isSlT Try.prog 74 = true := by kernel_rfl
@[go_sem] theorem notInt_74 : notInt Try.prog 74 = true := by kernel_rfl
@[go_sem] theorem isStr_74 : isStr Try.prog 74 = false := by kernel_rfl
@[go_sem] theorem isU8_74 : isU8 Try.prog 74 = false := by kernel_rfl
@[go_sem] theorem tyS_75 : tyS Try.prog 75 = some (7, 56, .agg #[.int .i64 0, .int .i64 0, .int .i64 0, .int .i64 0, .int .i64 0, .int .i64 0, .int .i64 0]) := by kernel_rfl
@[go_sem] theorem szOf_75 : szOf Try.prog 75 = some 7 := by kernel_rfl
@[go_sem] theorem aggOf_75 : aggOf Try.prog 75 = some true := by kernel_rfl
@[go_sem] theorem placesOf_75 : placesOf Try.prog 75 = some [(0, 1), (1, 1), (2, 1), (3, 1), (4, 1), (5, 1), (6, 1)] := by kernel_rfl
@[go_sem] theorem fldOf_75_0 : fldOf Try.prog 75 0 = some (0, 3) := by kernel_rfl
@[go_sem] theorem fldOf_75_1 : fldOf Try.prog 75 1 = some (1, 3) := by kernel_rfl
@[go_sem] theorem fldOf_75_2 : fldOf Try.prog 75 2 = some (2, 3) := by kernel_rfl
@[go_sem] theorem fldOf_75_3 : fldOf Try.prog 75 3 = some (3, 3) := by kernel_rfl
@[go_sem] theorem fldOf_75_4 : fldOf Try.prog 75 4 = some (4, 3) := by kernel_rfl
@[go_sem] theorem fldOf_75_5 : fldOf Try.prog 75 5 = some (5, 3) := by kernel_rfl
@[go_sem] theorem fldOf_75_6 : fldOf Try.prog 75 6 = some (6, 3) := by kernel_rfl
@[go_sem] theorem tyS_76 : tyS Try.prog 76 = some (7, 56, .agg #[.int .i64 0, .int .i64 0, .int .i64 0, .int .i64 0, .int .i64 0, .int .i64 0, .int .i64 0]) := by kernel_rfl
@[go_sem] theorem szOf_76 : szOf Try.prog 76 = some 7 := by kernel_rfl
@[go_sem] theorem aggOf_76 : aggOf Try.prog 76 = some true := by kernel_rfl
@[go_sem] theorem placesOf_76 : placesOf Try.prog 76 = some [(0, 1), (1, 1), (2, 1), (3, 1), (4, 1), (5, 1), (6, 1)] := by kernel_rfl
@[go_sem] theorem fldOf_76_0 : fldOf Try.prog 76 0 = some (0, 3) := by kernel_rfl
@[go_sem] theorem fldOf_76_1 : fldOf Try.prog 76 1 = some (1, 3) := by kernel_rfl
@[go_sem] theorem fldOf_76_2 : fldOf Try.prog 76 2 = some (2, 3) := by kernel_rfl
@[go_sem] theorem fldOf_76_3 : fldOf Try.prog 76 3 = some (3, 3) := by kernel_rfl
@[go_sem] theorem fldOf_76_4 : fldOf Try.prog 76 4 = some (4, 3) := by kernel_rfl
@[go_sem] theorem fldOf_76_5 : fldOf Try.prog 76 5 = some (5, 3) := by kernel_rfl
@[go_sem] theorem fldOf_76_6 : fldOf Try.prog 76 6 = some (6, 3) := by kernel_rfl
@[go_sem] theorem tyS_77 : tyS Try.prog 77 = some (1, 24, .slice none 0 0) := by kernel_rfl
@[go_sem] theorem szOf_77 : szOf Try.prog 77 = some 1 := by kernel_rfl
@[go_sem] theorem aggOf_77 : aggOf Try.prog 77 = some false := by kernel_rfl
@[go_sem] theorem elemOf_77 : elemOf' Try.prog 77 = some 3 := by kernel_rfl
@[go_sem] theorem isSlT_77 : isSlT Try.prog 77 = true := by kernel_rfl
@[go_sem] theorem notInt_77 : notInt Try.prog 77 = true := by kernel_rfl
@[go_sem] theorem isStr_77 : isStr Try.prog 77 = false := by kernel_rfl
@[go_sem] theorem isU8_77 : isU8 Try.prog 77 = false := by kernel_rfl
@[go_sem] theorem tyS_78 : tyS Try.prog 78 = some (8, 112, .agg #[.int .i64 0, .int .i64 0, .int .i64 0, .int .i64 0, .bool false, .slice none 0 0, .slice none 0 0, .slice none 0 0]) := by kernel_rfl
@[go_sem] theorem szOf_78 : szOf Try.prog 78 = some 8 := by kernel_rfl
@[go_sem] theorem aggOf_78 : aggOf Try.prog 78 = some true := by kernel_rfl
@[go_sem] theorem placesOf_78 : placesOf Try.prog 78 = some [(0, 1), (1, 1), (2, 1), (3, 1), (4, 1), (5, 1), (6, 1), (7, 1)] := by kernel_rfl
@[go_sem] theorem fldOf_78_0 : fldOf Try.prog 78 0 = some (0, 3) := by kernel_rfl
@[go_sem] theorem fldOf_78_1 : fldOf Try.prog 78 1 = some (1, 3) := by kernel_rfl
@[go_sem] theorem fldOf_78_2 : fldOf Try.prog 78 2 = some (2, 3) := by kernel_rfl
@[go_sem] theorem fldOf_78_3 : fldOf Try.prog 78 3 = some (3, 3) := by kernel_rfl
@[go_sem] theorem fldOf_78_4 : fldOf Try.prog 78 4 = some (4, 4) := by kernel_rfl
@[go_sem] theorem fldOf_78_5 : fldOf Try.prog 78 5 = some (5, 77) := by kernel_rfl
@[go_sem] theorem fldOf_78_6 : fldOf Try.prog 78 6 = some (6, 77) := by kernel_rfl
@[go_sem] theorem fldOf_78_7 : fldOf Try.prog 78 7 = some (7, 77) := by kernel_rfl
@[go_sem] theorem tyS_79 : tyS Try.prog 79 = some (8, 112, .agg #[.int .i64 0, .int .i64 0, .int .i64 0, .int .i64 0, .bool false, .slice none 0 0, .slice none 0 0, .slice none 0 0]) := by kernel_rfl
@[go_sem] theorem szOf_79 : szOf Try.prog 79 = some 8 := by kernel_rfl
@[go_sem] theorem aggOf_79 : aggOf Try.prog 79 = some true := by kernel_rfl
@[go_sem] theorem placesOf_79 : placesOf Try.prog 79 = some [(0, 1), (1, 1), (2, 1), (3, 1), (4, 1), (5, 1), (6, 1), (7, 1)] := by kernel_rfl
@[go_sem] theorem fldOf_79_0 : fldOf Try.prog 79 0 = some (0, 3) := by kernel_rfl
@[go_sem] theorem fldOf_79_1 : fldOf Try.prog 79 1 = some (1, 3) := by kernel_rfl
@[go_sem] theorem fldOf_79_2 : fldOf Try.prog 79 2 = some (2, 3) := by kernel_rfl
@[go_sem] theorem fldOf_79_3 : fldOf Try.prog 79 3 = some (3, 3) := by kernel_rfl
@[go_sem] theorem fldOf_79_4 : fldOf Try.prog 79 4 = some (4, 4) := by kernel_rfl
@[go_sem] theorem fldOf_79_5 : fldOf Try.prog 79 5 = some (5, 77) := by kernel_rfl
@[go_sem] theorem fldOf_79_6 : fldOf Try.prog 79 6 = some (6, 77) := by kernel_rfl
@[go_sem] theorem fldOf_79_7 : fldOf Try.prog 79 7 = some (7, 77) := by kernel_rfl
@[go_sem] theorem tyS_80 : tyS Try.prog 80 = some (24, 296, .agg #[.string ⟨#[]⟩, .int .i64 0, .int .i64 0, .string ⟨#[]⟩, .string ⟨#[]⟩, .string ⟨#[]⟩, .slice none 0 0, .string ⟨#[]⟩, .int .i64 0, .int .i64 0, .int .i64 0, .int .i64 0, .int .i64 0, .int .i64 0, .int .i64 0, .int .i64 0, .int .i64 0, .int .i64 0, .int .i64 0, .int .i64 0, .bool false, .slice none 0 0, .slice none 0 0, .slice none 0 0]) := by kernel_rfl
@[go_sem] theorem szOf_80 : szOf Try.prog 80 = some 24 := by kernel_rfl
@[go_sem] theorem aggOf_80 : aggOf Try.prog 80 = some true := by kernel_rfl
@[go_sem] theorem placesOf_80 : placesOf Try.prog 80 = some [(0, 1), (1, 1), (2, 1), (3, 1), (4, 1), (5, 1), (6, 1), (7, 1), (8, 7), (15, 1), (16, 8)] := by kernel_rfl
@[go_sem] theorem fldOf_80_0 : fldOf Try.prog 80 0 = some (0, 9) := by kernel_rfl
@[go_sem] theorem fldOf_80_1 : fldOf Try.prog 80 1 = some (1, 3) := by kernel_rfl
@[go_sem] theorem fldOf_80_2 : fldOf Try.prog 80 2 = some (2, 3) := by kernel_rfl
@[go_sem] theorem fldOf_80_3 : fldOf Try.prog 80 3 = some (3, 9) := by kernel_rfl
@[go_sem] theorem fldOf_80_4 : fldOf Try.prog 80 4 = some (4, 9) := by kernel_rfl
@[go_sem] theorem fldOf_80_5 : fldOf Try.prog 80 5 = some (5, 9) := by kernel_rfl
@[go_sem] theorem fldOf_80_6 : fldOf Try.prog 80 6 = some (6, 74) := by kernel_rfl
@[go_sem] theorem fldOf_80_7 : fldOf Try.prog 80 7 = some (7, 9) := by kernel_rfl
@[go_sem] theorem fldOf_80_8 : fldOf Try.prog 80 8 = some (8, 76) := by kernel_rfl
@[go_sem] theorem fldOf_80_9 : fldOf Try.prog 80 9 = some (15, 3) := by kernel_rfl
@[go_sem] theorem fldOf_80_10 : fldOf Try.prog 80 10 = some (16, 79) := by kernel_rfl
@[go_sem] theorem tyS_81 : tyS Try.prog 81 = some (24, 296, .agg #[.string ⟨#[]⟩, .int .i64 0, .int .i64 0, .string ⟨#[]⟩, .string ⟨#[]⟩, .string ⟨#[]⟩, .slice none 0 0, .string ⟨#[]⟩, .int .i64 0, .int .i64 0, .int .i64 0, .int .i64 0, .int .i64 0, .int .i64 0, .int .i64 0, .int .i64 0, .int .i64 0, .int .i64 0, .int .i64 0, .int .i64 0, .bool false, .slice none 0 0, .slice none 0 0, .slice none 0 0]) := by kernel_rfl
@[go_sem] theorem szOf_81 : szOf Try.prog 81 = some 24 := by kernel_rfl
@[go_sem] theorem aggOf_81 : aggOf Try.prog 81 = some true := by kernel_rfl
@[go_sem] theorem placesOf_81 : placesOf Try.prog 81 = some [(0, 1), (1, 1), (2, 1), (3, 1), (4, 1), (5, 1), (6, 1), (7, 1), (8, 7), (15, 1), (16, 8)] := by kernel_rfl
@[go_sem] theorem fldOf_81_0 : fldOf Try.prog 81 0 = some (0, 9) := by kernel_rfl
@[go_sem] theorem fldOf_81_1 : fldOf Try.prog 81 1 = some (1, 3) := by kernel_rfl
@[go_sem] theorem fldOf_81_2 : fldOf Try.prog 81 2 = some (2, 3) := by kernel_rfl
@[go_sem] theorem fldOf_81_3 : fldOf Try.prog 81 3 = some (3, 9) := by kernel_rfl
@[go_sem] theorem fldOf_81_4 : fldOf Try.prog 81 4 = some (4, 9) := by kernel_rfl
@[go_sem] theorem fldOf_81_5 : fldOf Try.prog 81 5 = some (5, 9) := by kernel_rfl
@[go_sem] theorem fldOf_81_6 : fldOf Try.prog 81 6 = some (6, 74) := by kernel_rfl
@[go_sem] theorem fldOf_81_7 : fldOf Try.prog 81 7 = some (7, 9) := by kernel_rfl
@[go_sem] theorem fldOf_81_8 : fldOf Try.prog 81 8 = some (8, 76) := by kernel_rfl
@[go_sem] theorem fldOf_81_9 : fldOf Try.prog 81 9 = some (15, 3) := by kernel_rfl
@[go_sem] theorem fldOf_81_10 : fldOf Try.prog 81 10 = some (16, 79) := by kernel_rfl
@[go_sem] theorem tyS_83 : tyS Try.prog 83 = some (1, 8, .nilFunc) := by kernel_rfl
@[go_sem] theorem szOf_83 : szOf Try.prog 83 = some 1 := by kernel_rfl
@[go_sem] theorem aggOf_83 : aggOf Try.prog 83 = some false := by kernel_rfl
@[go_sem] theorem tyS_84 : tyS Try.prog 84 = some (1, 8, .nilFunc) := by kernel_rfl
@[go_sem] theorem szOf_84 : szOf Try.prog 84 = some 1 := by kernel_rfl
@[go_sem] theorem aggOf_84 : aggOf Try.prog 84 = some false := by kernel_rfl
@[go_sem] theorem tyS_85 : tyS Try.prog 85 = some (1, 8, .nilFunc) := by kernel_rfl
@[go_sem] theorem szOf_85 : szOf Try.prog 85 = some 1 := by kernel_rfl
@[go_sem] theorem aggOf_85 : aggOf Try.prog 85 = some false := by kernel_rfl
@[go_sem] theorem tyS_86 : tyS Try.prog 86 = some (1, 8, .nilFunc) := by kernel_rfl
@[go_sem] theorem szOf_86 : szOf Try.prog 86 = some 1 := by kernel_rfl
@[go_sem] theorem aggOf_86 : aggOf Try.prog 86 = some false := by kernel_rfl
@[go_sem] theorem tyS_87 : tyS Try.prog 87 = some (1, 8, .nilFunc) := by kernel_rfl
@[go_sem] theorem szOf_87 : szOf Try.prog 87 = some 1 := by kernel_rfl
@[go_sem] theorem aggOf_87 : aggOf Try.prog 87 = some false := by kernel_rfl
@[go_sem] theorem tyS_88 : tyS Try.prog 88 = some (1, 8, .nilFunc) := by kernel_rfl
@[go_sem] theorem szOf_88 : szOf Try.prog 88 = some 1 := by kernel_rfl
@[go_sem] theorem aggOf_88 : aggOf Try.prog 88 = some false := by kernel_rfl
@[go_sem] theorem tyS_89 : tyS Try.prog 89 = some (1, 8, .nilFunc) := by kernel_rfl
@[go_sem] theorem szOf_89 : szOf Try.prog 89 = some 1 := by kernel_rfl
@[go_sem] theorem aggOf_89 : aggOf Try.prog 89 = some false := by kernel_rfl
@[go_sem] theorem tyS_90 : tyS Try.prog 90 = some (1, 8, .nilFunc) := by kernel_rfl
@[go_sem] theorem szOf_90 : szOf Try.prog 90 = some 1 := by kernel_rfl
@[go_sem] theorem aggOf_90 : aggOf Try.prog 90 = some false := by kernel_rfl
@[go_sem] theorem tyS_91 : tyS Try.prog 91 = some (1, 8, .nilFunc) := by kernel_rfl
@[go_sem] theorem szOf_91 : szOf Try.prog 91 = some 1 := by kernel_rfl
@[go_sem] theorem aggOf_91 : aggOf Try.prog 91 = some false := by kernel_rfl
@[go_sem] theorem tyS_92 : tyS Try.prog 92 = some (1, 8, .nilFunc) := by kernel_rfl
@[go_sem] theorem szOf_92 : szOf Try.prog 92 = some 1 := by kernel_rfl
@[go_sem] theorem aggOf_92 : aggOf Try.prog 92 = some false := by kernel_rfl
@[go_sem] theorem tyS_93 : tyS Try.prog 93 = some (1, 8, .nilFunc) := by kernel_rfl
@[go_sem] theorem szOf_93 : szOf Try.prog 93 = some 1 := by kernel_rfl
@[go_sem] theorem aggOf_93 : aggOf Try.prog 93 = some false := by kernel_rfl
@[go_sem] theorem tyS_94 : tyS Try.prog 94 = some (1, 8, .nilFunc) := by kernel_rfl
@[go_sem] theorem szOf_94 : szOf Try.prog 94 = some 1 := by kernel_rfl
@[go_sem] theorem aggOf_94 : aggOf Try.prog 94 = some false := by kernel_rfl
@[go_sem] theorem tyS_95 : tyS Try.prog 95 = some (1, 8, .nilFunc) := by kernel_rfl
@[go_sem] theorem szOf_95 : szOf Try.prog 95 = some 1 := by kernel_rfl
@[go_sem] theorem aggOf_95 : aggOf Try.prog 95 = some false := by kernel_rfl
@[go_sem] theorem tyS_96 : tyS Try.prog 96 = some (1, 8, .nilFunc) := by kernel_rfl
@[go_sem] theorem szOf_96 : szOf Try.prog 96 = some 1 := by kernel_rfl
@[go_sem] theorem aggOf_96 : aggOf Try.prog 96 = some false := by kernel_rfl
@[go_sem] theorem tyS_97 : tyS Try.prog 97 = some (1, 8, .nilFunc) := by kernel_rfl
@[go_sem] theorem szOf_97 : szOf Try.prog 97 = some 1 := by kernel_rfl
@[go_sem] theorem aggOf_97 : aggOf Try.prog 97 = some false := by kernel_rfl
@[go_sem] theorem tyS_98 : tyS Try.prog 98 = some (1, 8, .nilFunc) := by kernel_rfl
@[go_sem] theorem szOf_98 : szOf Try.prog 98 = some 1 := by kernel_rfl
@[go_sem] theorem aggOf_98 : aggOf Try.prog 98 = some false := by kernel_rfl
@[go_sem] theorem tyS_99 : tyS Try.prog 99 = some (1, 8, .nilFunc) := by kernel_rfl
@[go_sem] theorem szOf_99 : szOf Try.prog 99 = some 1 := by kernel_rfl
@[go_sem] theorem aggOf_99 : aggOf Try.prog 99 = some false := by kernel_rfl
@[go_sem] theorem tyS_100 : tyS Try.prog 100 = some (1, 8, .nilFunc) := by kernel_rfl
@[go_sem] theorem szOf_100 : szOf Try.prog 100 = some 1 := by kernel_rfl
@[go_sem] theorem aggOf_100 : aggOf Try.prog 100 = some false := by kernel_rfl
@[go_sem] theorem tyS_101 : tyS Try.prog 101 = some (1, 8, .nilFunc) := by kernel_rfl
@[go_sem] theorem szOf_101 : szOf Try.prog 101 = some 1 := by kernel_rfl
@[go_sem] theorem aggOf_101 : aggOf Try.prog 101 = some false := by kernel_rfl
@[go_sem] theorem tyS_102 : tyS Try.prog 102 = some (1, 8, .nilFunc) := by kernel_rfl
@[go_sem] theorem szOf_102 : szOf Try.prog 102 = some 1 := by kernel_rfl
@[go_sem] theorem aggOf_102 : aggOf Try.prog 102 = some false := by kernel_rfl
@[go_sem] theorem tyS_103 : tyS Try.prog 103 = some (1, 8, .nilFunc) := by kernel_rfl
@[go_sem] theorem szOf_103 : szOf Try.prog 103 = some 1 := by kernel_rfl
@[go_sem] theorem aggOf_103 : aggOf Try.prog 103 = some false := by kernel_rfl
@[go_sem] theorem tyS_104 : tyS Try.prog 104 = some (1, 8, .nilFunc) := by kernel_rfl
@[go_sem] theorem szOf_104 : szOf Try.prog 104 = some 1 := by kernel_rfl
@[go_sem] theorem aggOf_104 : aggOf Try.prog 104 = some false := by kernel_rfl
@[go_sem] theorem tyS_105 : tyS Try.prog 105 = some (1, 8, .nilFunc) := by kernel_rfl
@[go_sem] theorem szOf_105 : szOf Try.prog 105 = some 1 := by kernel_rfl
@[go_sem] theorem aggOf_105 : aggOf Try.prog 105 = some false := by kernel_rfl
@[go_sem] theorem tyS_106 : tyS Try.prog 106 = some (1, 8, .nilFunc) := by kernel_rfl
@[go_sem] theorem szOf_106 : szOf Try.prog 106 = some 1 := by kernel_rfl
@[go_sem] theorem aggOf_106 : aggOf Try.prog 106 = some false := by kernel_rfl
@[go_sem] theorem tyS_107 : tyS Try.prog 107 = some (1, 8, .nilFunc) := by kernel_rfl
@[go_sem] theorem szOf_107 : szOf Try.prog 107 = some 1 := by kernel_rfl
@[go_sem] theorem aggOf_107 : aggOf Try.prog 107 = some false := by kernel_rfl
@[go_sem] theorem tyS_108 : tyS Try.prog 108 = some (1, 8, .nilFunc) := by kernel_rfl
@[go_sem] theorem szOf_108 : szOf Try.prog 108 = some 1 := by kernel_rfl
@[go_sem] theorem aggOf_108 : aggOf Try.prog 108 = some false := by kernel_rfl
@[go_sem] theorem tyS_109 : tyS Try.prog 109 = some (1, 8, .nilFunc) := by kernel_rfl
@[go_sem] theorem szOf_109 : szOf Try.prog 109 = some 1 := by kernel_rfl
@[go_sem] theorem aggOf_109 : aggOf Try.prog 109 = some false := by kernel_rfl
@[go_sem] theorem tyS_110 : tyS Try.prog 110 = some (1, 8, .nilFunc) := by kernel_rfl
@[go_sem] theorem szOf_110 : szOf Try.prog 110 = some 1 := by kernel_rfl
@[go_sem] theorem aggOf_110 : aggOf Try.prog 110 = some false := by kernel_rfl
@[go_sem] theorem tyS_111 : tyS Try.prog 111 = some (1, 8, .nilFunc) := by kernel_rfl
@[go_sem] theorem szOf_111 : szOf Try.prog 111 = some 1 := by kernel_rfl
@[go_sem] theorem aggOf_111 : aggOf Try.prog 111 = some false := by kernel_rfl
@[go_sem] theorem tyS_112 : tyS Try.prog 112 = some (1, 8, .nilFunc) := by kernel_rfl
@[go_sem] theorem szOf_112 : szOf Try.prog 112 = some 1 := by kernel_rfl
@[go_sem] theorem aggOf_112 : aggOf Try.prog 112 = some false := by kernel_rfl
@[go_sem] theorem tyS_113 : tyS Try.prog 113 = some (1, 8, .nilFunc) := by kernel_rfl
@[go_sem] theorem szOf_113 : szOf Try.prog 113 = some 1 := by kernel_rfl
@[go_sem] theorem aggOf_113 : aggOf Try.prog 113 = some false := by kernel_rfl
@[go_sem] theorem tyS_114 : tyS Try.prog 114 = some (1, 8, .nilFunc) := by kernel_rfl
@[go_sem] theorem szOf_114 : szOf Try.prog 114 = some 1 := by kernel_rfl
@[go_sem] theorem aggOf_114 : aggOf Try.prog 114 = some false := by kernel_rfl
@[go_sem] theorem tyS_115 : tyS Try.prog 115 = some (1, 8, .nilFunc) := by kernel_rfl
@[go_sem] theorem szOf_115 : szOf Try.prog 115 = some 1 := by kernel_rfl
@[go_sem] theorem aggOf_115 : aggOf Try.prog 115 = some false := by kernel_rfl
@[go_sem] theorem tyS_116 : tyS Try.prog 116 = some (1, 8, .nilFunc) := by kernel_rfl
@[go_sem] theorem szOf_116 : szOf Try.prog 116 = some 1 := by kernel_rfl
@[go_sem] theorem aggOf_116 : aggOf Try.prog 116 = some false := by kernel_rfl
@[go_sem] theorem tyS_117 : tyS Try.prog 117 = some (1, 8, .nilFunc) := by kernel_rfl
@[go_sem] theorem szOf_117 : szOf Try.prog 117 = some 1 := by kernel_rfl
@[go_sem] theorem aggOf_117 : aggOf Try.prog 117 = some false := by kernel_rfl
@[go_sem] theorem tyS_118 : tyS Try.prog 118 = some (1, 8, .nilFunc) := by kernel_rfl
@[go_sem] theorem szOf_118 : szOf Try.prog 118 = some 1 := by kernel_rfl
@[go_sem] theorem aggOf_118 : aggOf Try.prog 118 = some false := by kernel_rfl
@[go_sem] theorem tyS_119 : tyS Try.prog 119 = some (1, 8, .nilFunc) := by kernel_rfl
@[go_sem] theorem szOf_119 : szOf Try.prog 119 = some 1 := by kernel_rfl
@[go_sem] theorem aggOf_119 : aggOf Try.prog 119 = some false := by kernel_rfl
@[go_sem] theorem tyS_120 : tyS Try.prog 120 = some (1, 8, .nilFunc) := by kernel_rfl
@[go_sem] theorem szOf_120 : szOf Try.prog 120 = some 1 := by kernel_rfl
@[go_sem] theorem aggOf_120 : aggOf Try.prog 120 = some false := by kernel_rfl
@[go_sem] theorem tyS_121 : tyS Try.prog 121 = some (1, 8, .nilFunc) := by kernel_rfl
@[go_sem] theorem szOf_121 : szOf Try.prog 121 = some 1 := by kernel_rfl
@[go_sem] theorem aggOf_121 : aggOf Try.prog 121 = some false := by kernel_rfl
@[go_sem] theorem tyS_122 : tyS Try.prog 122 = some (1, 8, .nilFunc) := by kernel_rfl
@[go_sem] theorem szOf_122 : szOf Try.prog 122 = some 1 := by kernel_rfl
@[go_sem] theorem aggOf_122 : aggOf Try.prog 122 = some false := by kernel_rfl
@[go_sem] theorem tyS_123 : tyS Try.prog 123 = some (1, 8, .nilFunc) := by kernel_rfl
@[go_sem] theorem szOf_123 : szOf Try.prog 123 = some 1 := by kernel_rfl
@[go_sem] theorem aggOf_123 : aggOf Try.prog 123 = some false := by kernel_rfl
@[go_sem] theorem tyS_124 : tyS Try.prog 124 = some (1, 8, .nilFunc) := by kernel_rfl
@[go_sem] theorem szOf_124 : szOf Try.prog 124 = some 1 := by kernel_rfl
@[go_sem] theorem aggOf_124 : aggOf Try.prog 124 = some false := by kernel_rfl
@[go_sem] theorem tyS_125 : tyS Try.prog 125 = some (1, 8, .nilFunc) := by kernel_rfl
@[go_sem] theorem szOf_125 : szOf Try.prog 125 = some 1 := by kernel_rfl
@[go_sem] theorem aggOf_125 : aggOf Try.prog 125 = some false := by kernel_rfl
@[go_sem] theorem tyS_126 : tyS Try.prog 126 = some (1, 8, .int .u64 0) := by kernel_rfl
@[go_sem] theorem szOf_126 : szOf Try.prog 126 = some 1 := by kernel_rfl
@[go_sem] theorem aggOf_126 : aggOf Try.prog 126 = some false := by kernel_rfl
@[go_sem] theorem isStr_126 : isStr Try.prog 126 = false := by kernel_rfl
@[go_sem] theorem isU8_126 : isU8 Try.prog 126 = false := by kernel_rfl
@[go_sem] theorem tyS_127 : tyS Try.prog 127 = some (1, 8, .nilFunc) := by kernel_rfl
@[go_sem] theorem szOf_127 : szOf Try.prog 127 = some 1 := by kernel_rfl
@[go_sem] theorem aggOf_127 : aggOf Try.prog 127 = some false := by kernel_rfl
@[go_sem] theorem tyS_128 : tyS Try.prog 128 = some (1, 8, .nilFunc) := by kernel_rfl
@[go_sem] theorem szOf_128 : szOf Try.prog 128 = some 1 := by kernel_rfl
@[go_sem] theorem aggOf_128 : aggOf Try.prog 128 = some false := by kernel_rfl
@[go_sem] theorem tyS_129 : tyS Try.prog 129 = some (1, 8, .nilFunc) := by kernel_rfl
@[go_sem] theorem szOf_129 : szOf Try.prog 129 = some 1 := by kernel_rfl
@[go_sem] theorem aggOf_129 : aggOf Try.prog 129 = some false := by kernel_rfl
@[go_sem] theorem tyS_130 : tyS Try.prog 130 = some (1, 8, .nilFunc) := by kernel_rfl
@[go_sem] theorem szOf_130 : szOf Try.prog 130 = some 1 := by kernel_rfl
@[go_sem] theorem aggOf_130 : aggOf Try.prog 130 = some false := by kernel_rfl
@[go_sem] theorem tyS_131 : tyS Try.prog 131 = some (1, 8, .nilFunc) := by kernel_rfl
@[go_sem] theorem szOf_131 : szOf Try.prog 131 = some 1 := by kernel_rfl
@[go_sem] theorem aggOf_131 : aggOf Try.prog 131 = some false := by kernel_rfl
@[go_sem] theorem tyS_132 : tyS Try.prog 132 = some (1, 8, .nilFunc) := by kernel_rfl
@[go_sem] theorem szOf_132 : szOf Try.prog 132 = some 1 := by kernel_rfl
@[go_sem] theorem aggOf_132 : aggOf Try.prog 132 = some false := by kernel_rfl
@[go_sem] theorem tyS_133 : tyS Try.prog 133 = some (1, 8, .nilFunc) := by kernel_rfl
@[go_sem] theorem szOf_133 : szOf Try.prog 133 = some 1 := by kernel_rfl
@[go_sem] theorem aggOf_133 : aggOf Try.prog 133 = some false := by kernel_rfl
@[go_sem] theorem tyS_134 : tyS Try.prog 134 = some (1, 8, .nilFunc) := by kernel_rfl
@[go_sem] theorem szOf_134 : szOf Try.prog 134 = some 1 := by kernel_rfl
@[go_sem] theorem aggOf_134 : aggOf Try.prog 134 = some false := by kernel_rfl
@[go_sem] theorem tyS_135 : tyS Try.prog 135 = some (1, 8, .nilFunc) := by kernel_rfl
@[go_sem] theorem szOf_135 : szOf Try.prog 135 = some 1 := by kernel_rfl
@[go_sem] theorem aggOf_135 : aggOf Try.prog 135 = some false := by kernel_rfl
@[go_sem] theorem tyS_136 : tyS Try.prog 136 = some (1, 8, .nilFunc) := by kernel_rfl
@[go_sem] theorem szOf_136 : szOf Try.prog 136 = some 1 := by kernel_rfl
@[go_sem] theorem aggOf_136 : aggOf Try.prog 136 = some false := by kernel_rfl
@[go_sem] theorem tyS_137 : tyS Try.prog 137 = some (1, 8, .int .i64 0) := by kernel_rfl
@[go_sem] theorem szOf_137 : szOf Try.prog 137 = some 1 := by kernel_rfl
@[go_sem] theorem aggOf_137 : aggOf Try.prog 137 = some false := by kernel_rfl
@[go_sem] theorem isStr_137 : isStr Try.prog 137 = false := by kernel_rfl
@[go_sem] theorem isU8_137 : isU8 Try.prog 137 = false := by kernel_rfl
@[go_sem] theorem tyS_139 : tyS Try.prog 139 = some (1, 8, .nilFunc) := by kernel_rfl
@[go_sem] theorem szOf_139 : szOf Try.prog 139 = some 1 := by kernel_rfl
@[go_sem] theorem aggOf_139 : aggOf Try.prog 139 = some false := by kernel_rfl
@[go_sem] theorem tyS_140 : tyS Try.prog 140 = some (1, 8, .nilFunc) := by kernel_rfl
@[go_sem] theorem szOf_140 : szOf Try.prog 140 = some 1 := by kernel_rfl
@[go_sem] theorem aggOf_140 : aggOf Try.prog 140 = some false := by kernel_rfl
@[go_sem] theorem tyS_141 : tyS Try.prog 141 = some (1, 8, .nilFunc) := by kernel_rfl
@[go_sem] theorem szOf_141 : szOf Try.prog 141 = some 1 := by kernel_rfl
@[go_sem] theorem aggOf_141 : aggOf Try.prog 141 = some false := by kernel_rfl
@[go_sem] theorem tyS_142 : tyS Try.prog 142 = some (1, 8, .nilFunc) := by kernel_rfl
@[go_sem] theorem szOf_142 : szOf Try.prog 142 = some 1 := by kernel_rfl
@[go_sem] theorem aggOf_142 : aggOf Try.prog 142 = some false := by kernel_rfl
@[go_sem] theorem tyS_144 : tyS Try.prog 144 = some (1, 8, .nilFunc) := by kernel_rfl
@[go_sem] theorem szOf_144 : szOf Try.prog 144 = some 1 := by kernel_rfl
@[go_sem] theorem aggOf_144 : aggOf Try.prog 144 = some false := by kernel_rfl
@[go_sem] theorem tyS_145 : tyS Try.prog 145 = some (1, 8, .nilFunc) := by kernel_rfl
@[go_sem] theorem szOf_145 : szOf Try.prog 145 = some 1 := by kernel_rfl
@[go_sem] theorem aggOf_145 : aggOf Try.prog 145 = some false := by kernel_rfl
@[go_sem] theorem tyS_146 : tyS Try.prog 146 = some (1, 4, .int .u32 0) := by kernel_rfl
@[go_sem] theorem szOf_146 : szOf Try.prog 146 = some 1 := by kernel_rfl
@[go_sem] theorem aggOf_146 : aggOf Try.prog 146 = some false := by kernel_rfl
@[go_sem] theorem isStr_146 : isStr Try.prog 146 = false := by kernel_rfl
@[go_sem] theorem isU8_146 : isU8 Try.prog 146 = false := by kernel_rfl
@[go_sem] theorem tyS_147 : tyS Try.prog 147 = some (1, 8, .nilFunc) := by kernel_rfl
@[go_sem] theorem szOf_147 : szOf Try.prog 147 = some 1 := by kernel_rfl
@[go_sem] theorem aggOf_147 : aggOf Try.prog 147 = some false := by kernel_rfl
@[go_sem] theorem tyS_148 : tyS Try.prog 148 = some (1, 8, .int .u64 0) := by kernel_rfl
@[go_sem] theorem szOf_148 : szOf Try.prog 148 = some 1 := by kernel_rfl
@[go_sem] theorem aggOf_148 : aggOf Try.prog 148 = some false := by kernel_rfl
@[go_sem] theorem isStr_148 : isStr Try.prog 148 = false := by kernel_rfl
@[go_sem] theorem isU8_148 : isU8 Try.prog 148 = false := by kernel_rfl
@[go_sem] theorem tyS_149 : tyS Try.prog 149 = some (1, 8, .nilFunc) := by kernel_rfl
@[go_sem] theorem szOf_149 : szOf Try.prog 149 = some 1 := by kernel_rfl
@[go_sem] theorem aggOf_149 : aggOf Try.prog 149 = some false := by kernel_rfl
@[go_sem] theorem tyS_150 : tyS Try.prog 150 = some (1, 8, .nilFunc) := by kernel_rfl
@[go_sem] theorem szOf_150 : szOf Try.prog 150 = some 1 := by kernel_rfl
@[go_sem] theorem aggOf_150 : aggOf Try.prog 150 = some false := by kernel_rfl
@[go_sem] theorem tyS_151 : tyS Try.prog 151 = some (1, 8, .nilFunc) := by kernel_rfl
@[go_sem] theorem szOf_151 : szOf Try.prog 151 = some 1 := by kernel_rfl
@[go_sem] theorem aggOf_151 : aggOf Try.prog 151 = some false := by kernel_rfl
@[go_sem] theorem tyS_152 : tyS Try.prog 152 = some (1, 8, .nilFunc) := by kernel_rfl
@[go_sem] theorem szOf_152 : szOf Try.prog 152 = some 1 := by kernel_rfl
@[go_sem] theorem aggOf_152 : aggOf Try.prog 152 = some false := by kernel_rfl
@[go_sem] theorem tyS_153 : tyS Try.prog 153 = some (1, 8, .nilFunc) := by kernel_rfl
@[go_sem] theorem szOf_153 : szOf Try.prog 153 = some 1 := by kernel_rfl
@[go_sem] theorem aggOf_153 : aggOf Try.prog 153 = some false := by kernel_rfl
@[go_sem] theorem tyS_154 : tyS Try.prog 154 = some (1, 8, .nilFunc) := by kernel_rfl
@[go_sem] theorem szOf_154 : szOf Try.prog 154 = some 1 := by kernel_rfl
@[go_sem] theorem aggOf_154 : aggOf Try.prog 154 = some false := by kernel_rfl
@[go_sem] theorem tyS_155 : tyS Try.prog 155 = some (1, 8, .int .u64 0) := by kernel_rfl
@[go_sem] theorem szOf_155 : szOf Try.prog 155 = some 1 := by kernel_rfl
@[go_sem] theorem aggOf_155 : aggOf Try.prog 155 = some false := by kernel_rfl
@[go_sem] theorem isStr_155 : isStr Try.prog 155 = false := by kernel_rfl
@[go_sem] theorem isU8_155 : isU8 Try.prog 155 = false := by kernel_rfl
@[go_sem] theorem tyS_156 : tyS Try.prog 156 = some (1, 8, .nilFunc) := by kernel_rfl
@[go_sem] theorem szOf_156 : szOf Try.prog 156 = some 1 := by kernel_rfl
@[go_sem] theorem aggOf_156 : aggOf Try.prog 156 = some false := by kernel_rfl
@[go_sem] theorem tyS_157 : tyS Try.prog 157 = some (1, 8, .nilFunc) := by kernel_rfl
@[go_sem] theorem szOf_157 : szOf Try.prog 157 = some 1 := by kernel_rfl
@[go_sem] theorem aggOf_157 : aggOf Try.prog 157 = some false := by kernel_rfl
@[go_sem] theorem tyS_158 : tyS Try.prog 158 = some (1, 8, .nilFunc) := by kernel_rfl
@[go_sem] theorem szOf_158 : szOf Try.prog 158 = some 1 := by kernel_rfl
@[go_sem] theorem aggOf_158 : aggOf Try.prog 158 = some false := by kernel_rfl
@[go_sem] theorem tyS_159 : tyS Try.prog 159 = some (1, 8, .pointer none) := by kernel_rfl
@[go_sem] theorem szOf_159 : szOf Try.prog 159 = some 1 := by kernel_rfl
@[go_sem] theorem aggOf_159 : aggOf Try.prog 159 = some false := by kernel_rfl
@[go_sem] theorem tyS_160 : tyS Try.prog 160 = some (1, 8, .nilFunc) := by kernel_rfl
@[go_sem] theorem szOf_160 : szOf Try.prog 160 = some 1 := by kernel_rfl
@[go_sem] theorem aggOf_160 : aggOf Try.prog 160 = some false := by kernel_rfl
@[go_sem] theorem tyS_161 : tyS Try.prog 161 = some (1, 8, .nilFunc) := by kernel_rfl
@[go_sem] theorem szOf_161 : szOf Try.prog 161 = some 1 := by kernel_rfl
@[go_sem] theorem aggOf_161 : aggOf Try.prog 161 = some false := by kernel_rfl
@[go_sem] theorem tyS_162 : tyS Try.prog 162 = some (1, 8, .nilFunc) := by kernel_rfl
@[go_sem] theorem szOf_162 : szOf Try.prog 162 = some 1 := by kernel_rfl
@[go_sem] theorem aggOf_162 : aggOf Try.prog 162 = some false := by kernel_rfl
@[go_sem] theorem tyS_163 : tyS Try.prog 163 = some (1, 8, .nilFunc) := by kernel_rfl
@[go_sem] theorem szOf_163 : szOf Try.prog 163 = some 1 := by kernel_rfl
@[go_sem] theorem aggOf_163 : aggOf Try.prog 163 = some false := by kernel_rfl
@[go_sem] theorem tyS_164 : tyS Try.prog 164 = some (1, 8, .pointer none) := by kernel_rfl
@[go_sem] theorem szOf_164 : szOf Try.prog 164 = some 1 := by kernel_rfl
@[go_sem] theorem aggOf_164 : aggOf Try.prog 164 = some false := by kernel_rfl
@[go_sem] theorem tyS_166 : tyS Try.prog 166 = some (1, 8, .nilFunc) := by kernel_rfl
@[go_sem] theorem szOf_166 : szOf Try.prog 166 = some 1 := by kernel_rfl
@[go_sem] theorem aggOf_166 : aggOf Try.prog 166 = some false := by kernel_rfl
@[go_sem] theorem tyS_167 : tyS Try.prog 167 = some (1, 8, .nilFunc) := by kernel_rfl
@[go_sem] theorem szOf_167 : szOf Try.prog 167 = some 1 := by kernel_rfl
@[go_sem] theorem aggOf_167 : aggOf Try.prog 167 = some false := by kernel_rfl
@[go_sem] theorem tyS_168 : tyS Try.prog 168 = some (1, 8, .nilFunc) := by kernel_rfl
@[go_sem] theorem szOf_168 : szOf Try.prog 168 = some 1 := by kernel_rfl
@[go_sem] theorem aggOf_168 : aggOf Try.prog 168 = some false := by kernel_rfl
@[go_sem] theorem tyS_169 : tyS Try.prog 169 = some (4, 40, .agg #[.pointer none, .pointer none, .pointer none, .string ⟨#[]⟩]) := by kernel_rfl
@[go_sem] theorem szOf_169 : szOf Try.prog 169 = some 4 := by kernel_rfl
@[go_sem] theorem aggOf_169 : aggOf Try.prog 169 = some true := by kernel_rfl
@[go_sem] theorem placesOf_169 : placesOf Try.prog 169 = some [(0, 1), (1, 1), (2, 1), (3, 1)] := by kernel_rfl
@[go_sem] theorem fldOf_169_0 : fldOf Try.prog 169 0 = some (0, 17) := by kernel_rfl
@[go_sem] theorem fldOf_169_1 : fldOf Try.prog 169 1 = some (1, 17) := by kernel_rfl
@[go_sem] theorem fldOf_169_2 : fldOf Try.prog 169 2 = some (2, 17) := by kernel_rfl
@[go_sem] theorem fldOf_169_3 : fldOf Try.prog 169 3 = some (3, 9) := by kernel_rfl
@[go_sem] theorem tyS_170 : tyS Try.prog 170 = some (4, 40, .agg #[.pointer none, .pointer none, .pointer none, .string ⟨#[]⟩]) := by kernel_rfl
@[go_sem] theorem szOf_170 : szOf Try.prog 170 = some 4 := by kernel_rfl
@[go_sem] theorem aggOf_170 : aggOf Try.prog 170 = some true := by kernel_rfl
@[go_sem] theorem placesOf_170 : placesOf Try.prog 170 = some [(0, 1), (1, 1), (2, 1), (3, 1)] := by kernel_rfl
@[go_sem] theorem fldOf_170_0 : fldOf Try.prog 170 0 = some (0, 17) := by kernel_rfl
@[go_sem] theorem fldOf_170_1 : fldOf Try.prog 170 1 = some (1, 17) := by kernel_rfl
@[go_sem] theorem fldOf_170_2 : fldOf Try.prog 170 2 = some (2, 17) := by kernel_rfl
@[go_sem] theorem fldOf_170_3 : fldOf Try.prog 170 3 = some (3, 9) := by kernel_rfl
@[go_sem] theorem tyS_171 : tyS Try.prog 171 = some (0, 0, .agg #[]) := by kernel_rfl
@[go_sem] theorem szOf_171 : szOf Try.prog 171 = some 0 := by kernel_rfl
@[go_sem] theorem aggOf_171 : aggOf Try.prog 171 = some true := by kernel_rfl
@[go_sem] theorem tyS_172 : tyS Try.prog 172 = some (0, 0, .agg #[]) := by kernel_rfl
@[go_sem] theorem szOf_172 : szOf Try.prog 172 = some 0 := by kernel_rfl
@[go_sem] theorem aggOf_172 : aggOf Try.prog 172 = some true := by kernel_rfl
@[go_sem] theorem placesOf_172 : placesOf Try.prog 172 = some [(0, 0)] := by kernel_rfl
@[go_sem] theorem fldOf_172_0 : fldOf Try.prog 172 0 = some (0, 171) := by kernel_rfl
@[go_sem] theorem tyS_173 : tyS Try.prog 173 = some (0, 0, .agg #[]) := by kernel_rfl
@[go_sem] theorem szOf_173 : szOf Try.prog 173 = some 0 := by kernel_rfl
@[go_sem] theorem aggOf_173 : aggOf Try.prog 173 = some true := by kernel_rfl
@[go_sem] theorem placesOf_173 : placesOf Try.prog 173 = some [(0, 0)] := by kernel_rfl
@[go_sem] theorem fldOf_173_0 : fldOf Try.prog 173 0 = some (0, 171) := by kernel_rfl
@[go_sem] theorem tyS_174 : tyS Try.prog 174 = some (1, 8, .nilFunc) := by kernel_rfl
@[go_sem] theorem szOf_174 : szOf Try.prog 174 = some 1 := by kernel_rfl
@[go_sem] theorem aggOf_174 : aggOf Try.prog 174 = some false := by kernel_rfl
@[go_sem] theorem tyS_175 : tyS Try.prog 175 = some (1, 1, .int .u8 0) := by kernel_rfl
@[go_sem] theorem szOf_175 : szOf Try.prog 175 = some 1 := by kernel_rfl
@[go_sem] theorem aggOf_175 : aggOf Try.prog 175 = some false := by kernel_rfl
@[go_sem] theorem isStr_175 : isStr Try.prog 175 = false := by kernel_rfl
@[go_sem] theorem isU8_175 : isU8 Try.prog 175 = false := by kernel_rfl
@[go_sem] theorem tyS_176 : tyS Try.prog 176 = some (1, 1, .int .u8 0) := by kernel_rfl
@[go_sem] theorem szOf_176 : szOf Try.prog 176 = some 1 := by kernel_rfl
@[go_sem] theorem aggOf_176 : aggOf Try.prog 176 = some false := by kernel_rfl
@[go_sem] theorem isStr_176 : isStr Try.prog 176 = false := by kernel_rfl
@[go_sem] theorem isU8_176 : isU8 Try.prog 176 = false := by kernel_rfl
@[go_sem] theorem tyS_177 : tyS Try.prog 177 = some (1, 8, .nilFunc) := by kernel_rfl
@[go_sem] theorem szOf_177 : szOf Try.prog 177 = some 1 := by kernel_rfl
@[go_sem] theorem aggOf_177 : aggOf Try.prog 177 = some false := by kernel_rfl
@[go_sem] theorem tyS_178 : tyS Try.prog 178 = some (1, 8, .pointer none) := by kernel_rfl
@[go_sem] theorem szOf_178 : szOf Try.prog 178 = some 1 := by kernel_rfl
@[go_sem] theorem aggOf_178 : aggOf Try.prog 178 = some false := by kernel_rfl
@[go_sem] theorem tyS_179 : tyS Try.prog 179 = some (1, 4, .int .i32 0) := by kernel_rfl
@[go_sem] theorem szOf_179 : szOf Try.prog 179 = some 1 := by kernel_rfl
@[go_sem] theorem aggOf_179 : aggOf Try.prog 179 = some false := by kernel_rfl
@[go_sem] theorem isStr_179 : isStr Try.prog 179 = false := by kernel_rfl
@[go_sem] theorem isU8_179 : isU8 Try.prog 179 = false := by kernel_rfl
@[go_sem] theorem tyS_180 : tyS Try.prog 180 = some (1, 4, .int .i32 0) := by kernel_rfl
@[go_sem] theorem szOf_180 : szOf Try.prog 180 = some 1 := by kernel_rfl
@[go_sem] theorem aggOf_180 : aggOf Try.prog 180 = some false := by kernel_rfl
@[go_sem] theorem isStr_180 : isStr Try.prog 180 = false := by kernel_rfl
@[go_sem] theorem isU8_180 : isU8 Try.prog 180 = false := by kernel_rfl
@[go_sem] theorem tyS_181 : tyS Try.prog 181 = some (11, 48, .agg #[.int .u64 0, .int .u64 0, .int .u32 0, .int .u8 0, .int .u8 0, .int .u8 0, .int .u8 0, .nilFunc, .pointer none, .int .i32 0, .int .i32 0]) := by kernel_rfl
@[go_sem] theorem szOf_181 : szOf Try.prog 181 = some 11 := by kernel_rfl
@[go_sem] theorem aggOf_181 : aggOf Try.prog 181 = some true := by kernel_rfl
@[go_sem] theorem placesOf_181 : placesOf Try.prog 181 = some [(0, 1), (1, 1), (2, 1), (3, 1), (4, 1), (5, 1), (6, 1), (7, 1), (8, 1), (9, 1), (10, 1)] := by kernel_rfl
@[go_sem] theorem fldOf_181_0 : fldOf Try.prog 181 0 = some (0, 12) := by kernel_rfl
@[go_sem] theorem fldOf_181_1 : fldOf Try.prog 181 1 = some (1, 12) := by kernel_rfl
@[go_sem] theorem fldOf_181_2 : fldOf Try.prog 181 2 = some (2, 146) := by kernel_rfl
@[go_sem] theorem fldOf_181_3 : fldOf Try.prog 181 3 = some (3, 175) := by kernel_rfl
@[go_sem] theorem fldOf_181_4 : fldOf Try.prog 181 4 = some (4, 5) := by kernel_rfl
@[go_sem] theorem fldOf_181_5 : fldOf Try.prog 181 5 = some (5, 5) := by kernel_rfl
@[go_sem] theorem fldOf_181_6 : fldOf Try.prog 181 6 = some (6, 176) := by kernel_rfl
@[go_sem] theorem fldOf_181_7 : fldOf Try.prog 181 7 = some (7, 177) := by kernel_rfl
@[go_sem] theorem fldOf_181_8 : fldOf Try.prog 181 8 = some (8, 178) := by kernel_rfl
@[go_sem] theorem fldOf_181_9 : fldOf Try.prog 181 9 = some (9, 179) := by kernel_rfl
@[go_sem] theorem fldOf_181_10 : fldOf Try.prog 181 10 = some (10, 180) := by kernel_rfl
@[go_sem] theorem tyS_182 : tyS Try.prog 182 = some (11, 48, .agg #[.int .u64 0, .int .u64 0, .int .u32 0, .int .u8 0, .int .u8 0, .int .u8 0, .int .u8 0, .nilFunc, .pointer none, .int .i32 0, .int .i32 0]) := by kernel_rfl
@[go_sem] theorem szOf_182 : szOf Try.prog 182 = some 11 := by kernel_rfl
@[go_sem] theorem aggOf_182 : aggOf Try.prog 182 = some true := by kernel_rfl
@[go_sem] theorem placesOf_182 : placesOf Try.prog 182 = some [(0, 1), (1, 1), (2, 1), (3, 1), (4, 1), (5, 1), (6, 1), (7, 1), (8, 1), (9, 1), (10, 1)] := by kernel_rfl
@[go_sem] theorem fldOf_182_0 : fldOf Try.prog 182 0 = some (0, 12) := by kernel_rfl
@[go_sem] theorem fldOf_182_1 : fldOf Try.prog 182 1 = some (1, 12) := by kernel_rfl
@[go_sem] theorem fldOf_182_2 : fldOf Try.prog 182 2 = some (2, 146) := by kernel_rfl
@[go_sem] theorem fldOf_182_3 : fldOf Try.prog 182 3 = some (3, 175) := by kernel_rfl
@[go_sem] theorem fldOf_182_4 : fldOf Try.prog 182 4 = some (4, 5) := by kernel_rfl
@[go_sem] theorem fldOf_182_5 : fldOf Try.prog 182 5 = some (5, 5) := by kernel_rfl
@[go_sem] theorem fldOf_182_6 : fldOf Try.prog 182 6 = some (6, 176) := by kernel_rfl
@[go_sem] theorem fldOf_182_7 : fldOf Try.prog 182 7 = some (7, 177) := by kernel_rfl
@[go_sem] theorem fldOf_182_8 : fldOf Try.prog 182 8 = some (8, 178) := by kernel_rfl
@[go_sem] theorem fldOf_182_9 : fldOf Try.prog 182 9 = some (9, 179) := by kernel_rfl
@[go_sem] theorem fldOf_182_10 : fldOf Try.prog 182 10 = some (10, 180) := by kernel_rfl
@[go_sem] theorem tyS_183 : tyS Try.prog 183 = some (2, 24, .agg #[.string ⟨#[]⟩, .int .i64 0]) := by kernel_rfl
@[go_sem] theorem szOf_183 : szOf Try.prog 183 = some 2 := by kernel_rfl
@[go_sem] theorem aggOf_183 : aggOf Try.prog 183 = some true := by kernel_rfl
@[go_sem] theorem placesOf_183 : placesOf Try.prog 183 = some [(0, 1), (1, 1)] := by kernel_rfl
@[go_sem] theorem fldOf_183_0 : fldOf Try.prog 183 0 = some (0, 9) := by kernel_rfl
@[go_sem] theorem fldOf_183_1 : fldOf Try.prog 183 1 = some (1, 3) := by kernel_rfl
@[go_sem] theorem tyS_184 : tyS Try.prog 184 = some (2, 24, .agg #[.string ⟨#[]⟩, .int .i64 0]) := by kernel_rfl
@[go_sem] theorem szOf_184 : szOf Try.prog 184 = some 2 := by kernel_rfl
@[go_sem] theorem aggOf_184 : aggOf Try.prog 184 = some true := by kernel_rfl
@[go_sem] theorem placesOf_184 : placesOf Try.prog 184 = some [(0, 1), (1, 1)] := by kernel_rfl
@[go_sem] theorem fldOf_184_0 : fldOf Try.prog 184 0 = some (0, 9) := by kernel_rfl
@[go_sem] theorem fldOf_184_1 : fldOf Try.prog 184 1 = some (1, 3) := by kernel_rfl
@[go_sem] theorem tyS_185 : tyS Try.prog 185 = some (1, 8, .pointer none) := by kernel_rfl
@[go_sem] theorem szOf_185 : szOf Try.prog 185 = some 1 := by kernel_rfl
@[go_sem] theorem aggOf_185 : aggOf Try.prog 185 = some false := by kernel_rfl
end Go.Proofs.Ytpgnhajindbhlaa.Ty
/- The Go types as structures, how they lie as data. Printed by a program of this work out of the translation's table. -/
set_option linter.unusedSimpArgs false
namespace Go.Fw
open Go.RowKit Go.Proofs Go.Proofs.Ytpgnhajindbhlaa
attribute [go_sem] dI dB dS' dL
structure Period where
  From : Int
  To : Int
  deriving DecidableEq
@[go_sem] def Period.d (x : Period) : DVal := .agg [.v (.int .i64 x.From), .v (.int .i64 x.To)]
@[go_sem] theorem Period.al (l : List Period) : allLen 2 (l.map Period.d) = true := allLen_map (f := Period.d) (n := 2) (fun _ => rfl) l
def Period.z : Period := ⟨(0 : Int), (0 : Int)⟩
def Period.B (x : Period) : Prop := BInt .i64 x.From ∧ BInt .i64 x.To
def Period.Z (x : Period) : Nat := (ZInt x.From + ZInt x.To) + 1
theorem Period.o : Opens Try.prog 24 Period.d Period.B Period.Z := opens_struct (fun y : (Int × Int) => (⟨y.1, y.2⟩ : Period)) (fun _ => rfl) (fun _ h => h) (fun _ => rfl) Try.underlying24 rfl (by kernel_rfl) (by kernel_rfl) (fun n => (row_cons ((opens_int Try.underlying3) n) (row_one ((opens_int Try.underlying3) n))))
structure Attendee where
  Address : ByteArray
  Answer : Int
  Offer : Period
  deriving DecidableEq
@[go_sem] def Attendee.d (x : Attendee) : DVal := .agg [.v (.string x.Address), .v (.int .i64 x.Answer), .v (.int .i64 x.Offer.From), .v (.int .i64 x.Offer.To)]
@[go_sem] theorem Attendee.al (l : List Attendee) : allLen 4 (l.map Attendee.d) = true := allLen_map (f := Attendee.d) (n := 4) (fun _ => rfl) l
def Attendee.z : Attendee := ⟨ByteArray.empty, (0 : Int), Period.z⟩
def Attendee.B (x : Attendee) : Prop := BStr x.Address ∧ BInt .i64 x.Answer ∧ Period.B x.Offer
def Attendee.Z (x : Attendee) : Nat := (ZStr x.Address + (ZInt x.Answer + Period.Z x.Offer)) + 1
theorem Attendee.o : Opens Try.prog 37 Attendee.d Attendee.B Attendee.Z := opens_struct (fun y : (ByteArray × (Int × Period)) => (⟨y.1, y.2.1, y.2.2⟩ : Attendee)) (fun _ => rfl) (fun _ h => h) (fun _ => rfl) Try.underlying37 rfl (by kernel_rfl) (by kernel_rfl) (fun n => (row_cons ((opens_str Try.underlying9) n) (row_cons ((opens_int Try.underlying3) n) (row_one (Period.o n)))))
structure Meeting where
  Organizer : ByteArray
  Guests : List Attendee
  Round : Int
  Proposed : Period
  Cancelled : Bool
  deriving DecidableEq
@[go_sem] def Meeting.d (x : Meeting) : DVal := .agg [.v (.string x.Organizer), .list (x.Guests.map Attendee.d), .v (.int .i64 x.Round), .v (.int .i64 x.Proposed.From), .v (.int .i64 x.Proposed.To), .v (.bool x.Cancelled)]
@[go_sem] theorem Meeting.al (l : List Meeting) : allLen 6 (l.map Meeting.d) = true := allLen_map (f := Meeting.d) (n := 6) (fun _ => rfl) l
def Meeting.z : Meeting := ⟨ByteArray.empty, [], (0 : Int), Period.z, false⟩
def Meeting.B (x : Meeting) : Prop := BStr x.Organizer ∧ BSlice 40 Attendee.B x.Guests ∧ BInt .i64 x.Round ∧ Period.B x.Proposed ∧ BBool x.Cancelled
def Meeting.Z (x : Meeting) : Nat := (ZStr x.Organizer + (ZSlice Attendee.Z x.Guests + (ZInt x.Round + (Period.Z x.Proposed + ZBool x.Cancelled)))) + 1
theorem Meeting.o : Opens Try.prog 26 Meeting.d Meeting.B Meeting.Z := opens_struct (fun y : (ByteArray × ((List Attendee) × (Int × (Period × Bool)))) => (⟨y.1, y.2.1, y.2.2.1, y.2.2.2.1, y.2.2.2.2⟩ : Meeting)) (fun _ => rfl) (fun _ h => h) (fun _ => rfl) Try.underlying26 rfl (by kernel_rfl) (by kernel_rfl) (fun n => (row_cons ((opens_str Try.underlying9) n) (row_cons ((opens_slice (κ := Attendee.d) (B := Attendee.B) (Z := Attendee.Z) (bytes := 40) (sz := 4) Try.underlying22 (by kernel_rfl) (by kernel_rfl) (by decide) (fun _ => rfl) Attendee.z Attendee.o) n) (row_cons ((opens_int Try.underlying3) n) (row_cons (Period.o n) (row_one ((opens_bool Try.underlying4) n)))))))
structure Fault where
  Code : Int
  Index : Int
  deriving DecidableEq
@[go_sem] def Fault.d (x : Fault) : DVal := .agg [.v (.int .i64 x.Code), .v (.int .i64 x.Index)]
@[go_sem] theorem Fault.al (l : List Fault) : allLen 2 (l.map Fault.d) = true := allLen_map (f := Fault.d) (n := 2) (fun _ => rfl) l
def Fault.z : Fault := ⟨(0 : Int), (0 : Int)⟩
def Fault.B (x : Fault) : Prop := BInt .i64 x.Code ∧ BInt .i64 x.Index
def Fault.Z (x : Fault) : Nat := (ZInt x.Code + ZInt x.Index) + 1
theorem Fault.o : Opens Try.prog 28 Fault.d Fault.B Fault.Z := opens_struct (fun y : (Int × Int) => (⟨y.1, y.2⟩ : Fault)) (fun _ => rfl) (fun _ h => h) (fun _ => rfl) Try.underlying28 rfl (by kernel_rfl) (by kernel_rfl) (fun n => (row_cons ((opens_int Try.underlying3) n) (row_one ((opens_int Try.underlying3) n))))
structure Turn where
  Month : Int
  Week : Int
  Weekday : Int
  Minute : Int
  deriving DecidableEq
@[go_sem] def Turn.d (x : Turn) : DVal := .agg [.v (.int .i64 x.Month), .v (.int .i64 x.Week), .v (.int .i64 x.Weekday), .v (.int .i64 x.Minute)]
@[go_sem] theorem Turn.al (l : List Turn) : allLen 4 (l.map Turn.d) = true := allLen_map (f := Turn.d) (n := 4) (fun _ => rfl) l
def Turn.z : Turn := ⟨(0 : Int), (0 : Int), (0 : Int), (0 : Int)⟩
def Turn.B (x : Turn) : Prop := BInt .i64 x.Month ∧ BInt .i64 x.Week ∧ BInt .i64 x.Weekday ∧ BInt .i64 x.Minute
def Turn.Z (x : Turn) : Nat := (ZInt x.Month + (ZInt x.Week + (ZInt x.Weekday + ZInt x.Minute))) + 1
theorem Turn.o : Opens Try.prog 71 Turn.d Turn.B Turn.Z := opens_struct (fun y : (Int × (Int × (Int × Int))) => (⟨y.1, y.2.1, y.2.2.1, y.2.2.2⟩ : Turn)) (fun _ => rfl) (fun _ h => h) (fun _ => rfl) Try.underlying71 rfl (by kernel_rfl) (by kernel_rfl) (fun n => (row_cons ((opens_int Try.underlying3) n) (row_cons ((opens_int Try.underlying3) n) (row_cons ((opens_int Try.underlying3) n) (row_one ((opens_int Try.underlying3) n))))))
structure Zone where
  Name : ByteArray
  Standard : Int
  Summer : Int
  Begin : Turn
  End : Turn
  deriving DecidableEq
@[go_sem] def Zone.d (x : Zone) : DVal := .agg [.v (.string x.Name), .v (.int .i64 x.Standard), .v (.int .i64 x.Summer), .v (.int .i64 x.Begin.Month), .v (.int .i64 x.Begin.Week), .v (.int .i64 x.Begin.Weekday), .v (.int .i64 x.Begin.Minute), .v (.int .i64 x.End.Month), .v (.int .i64 x.End.Week), .v (.int .i64 x.End.Weekday), .v (.int .i64 x.End.Minute)]
@[go_sem] theorem Zone.al (l : List Zone) : allLen 11 (l.map Zone.d) = true := allLen_map (f := Zone.d) (n := 11) (fun _ => rfl) l
def Zone.z : Zone := ⟨ByteArray.empty, (0 : Int), (0 : Int), Turn.z, Turn.z⟩
def Zone.B (x : Zone) : Prop := BStr x.Name ∧ BInt .i64 x.Standard ∧ BInt .i64 x.Summer ∧ Turn.B x.Begin ∧ Turn.B x.End
def Zone.Z (x : Zone) : Nat := (ZStr x.Name + (ZInt x.Standard + (ZInt x.Summer + (Turn.Z x.Begin + Turn.Z x.End)))) + 1
theorem Zone.o : Opens Try.prog 73 Zone.d Zone.B Zone.Z := opens_struct (fun y : (ByteArray × (Int × (Int × (Turn × Turn)))) => (⟨y.1, y.2.1, y.2.2.1, y.2.2.2.1, y.2.2.2.2⟩ : Zone)) (fun _ => rfl) (fun _ h => h) (fun _ => rfl) Try.underlying73 rfl (by kernel_rfl) (by kernel_rfl) (fun n => (row_cons ((opens_str Try.underlying9) n) (row_cons ((opens_int Try.underlying3) n) (row_cons ((opens_int Try.underlying3) n) (row_cons (Turn.o n) (row_one (Turn.o n)))))))
structure Date where
  Year : Int
  Month : Int
  Day : Int
  Hour : Int
  Minute : Int
  Second : Int
  Zone : Int
  deriving DecidableEq
@[go_sem] def Date.d (x : Date) : DVal := .agg [.v (.int .i64 x.Year), .v (.int .i64 x.Month), .v (.int .i64 x.Day), .v (.int .i64 x.Hour), .v (.int .i64 x.Minute), .v (.int .i64 x.Second), .v (.int .i64 x.Zone)]
@[go_sem] theorem Date.al (l : List Date) : allLen 7 (l.map Date.d) = true := allLen_map (f := Date.d) (n := 7) (fun _ => rfl) l
def Date.z : Date := ⟨(0 : Int), (0 : Int), (0 : Int), (0 : Int), (0 : Int), (0 : Int), (0 : Int)⟩
def Date.B (x : Date) : Prop := BInt .i64 x.Year ∧ BInt .i64 x.Month ∧ BInt .i64 x.Day ∧ BInt .i64 x.Hour ∧ BInt .i64 x.Minute ∧ BInt .i64 x.Second ∧ BInt .i64 x.Zone
def Date.Z (x : Date) : Nat := (ZInt x.Year + (ZInt x.Month + (ZInt x.Day + (ZInt x.Hour + (ZInt x.Minute + (ZInt x.Second + ZInt x.Zone)))))) + 1
theorem Date.o : Opens Try.prog 76 Date.d Date.B Date.Z := opens_struct (fun y : (Int × (Int × (Int × (Int × (Int × (Int × Int)))))) => (⟨y.1, y.2.1, y.2.2.1, y.2.2.2.1, y.2.2.2.2.1, y.2.2.2.2.2.1, y.2.2.2.2.2.2⟩ : Date)) (fun _ => rfl) (fun _ h => h) (fun _ => rfl) Try.underlying76 rfl (by kernel_rfl) (by kernel_rfl) (fun n => (row_cons ((opens_int Try.underlying3) n) (row_cons ((opens_int Try.underlying3) n) (row_cons ((opens_int Try.underlying3) n) (row_cons ((opens_int Try.underlying3) n) (row_cons ((opens_int Try.underlying3) n) (row_cons ((opens_int Try.underlying3) n) (row_one ((opens_int Try.underlying3) n)))))))))
structure Recurrence where
  Frequency : Int
  Every : Int
  Count : Int
  Until : Int
  HasUntil : Bool
  Weekdays : List Int
  Except : List Int
  Add : List Int
  deriving DecidableEq
@[go_sem] def Recurrence.d (x : Recurrence) : DVal := .agg [.v (.int .i64 x.Frequency), .v (.int .i64 x.Every), .v (.int .i64 x.Count), .v (.int .i64 x.Until), .v (.bool x.HasUntil), .list (x.Weekdays.map (dI .i64)), .list (x.Except.map (dI .i64)), .list (x.Add.map (dI .i64))]
@[go_sem] theorem Recurrence.al (l : List Recurrence) : allLen 8 (l.map Recurrence.d) = true := allLen_map (f := Recurrence.d) (n := 8) (fun _ => rfl) l
def Recurrence.z : Recurrence := ⟨(0 : Int), (0 : Int), (0 : Int), (0 : Int), false, [], [], []⟩
def Recurrence.B (x : Recurrence) : Prop := BInt .i64 x.Frequency ∧ BInt .i64 x.Every ∧ BInt .i64 x.Count ∧ BInt .i64 x.Until ∧ BBool x.HasUntil ∧ BSlice 8 (BInt .i64) x.Weekdays ∧ BSlice 8 (BInt .i64) x.Except ∧ BSlice 8 (BInt .i64) x.Add
def Recurrence.Z (x : Recurrence) : Nat := (ZInt x.Frequency + (ZInt x.Every + (ZInt x.Count + (ZInt x.Until + (ZBool x.HasUntil + (ZSlice ZInt x.Weekdays + (ZSlice ZInt x.Except + ZSlice ZInt x.Add))))))) + 1
theorem Recurrence.o : Opens Try.prog 79 Recurrence.d Recurrence.B Recurrence.Z := opens_struct (fun y : (Int × (Int × (Int × (Int × (Bool × ((List Int) × ((List Int) × (List Int)))))))) => (⟨y.1, y.2.1, y.2.2.1, y.2.2.2.1, y.2.2.2.2.1, y.2.2.2.2.2.1, y.2.2.2.2.2.2.1, y.2.2.2.2.2.2.2⟩ : Recurrence)) (fun _ => rfl) (fun _ h => h) (fun _ => rfl) Try.underlying79 rfl (by kernel_rfl) (by kernel_rfl) (fun n => (row_cons ((opens_int Try.underlying3) n) (row_cons ((opens_int Try.underlying3) n) (row_cons ((opens_int Try.underlying3) n) (row_cons ((opens_int Try.underlying3) n) (row_cons ((opens_bool Try.underlying4) n) (row_cons ((opens_slice (κ := (dI .i64)) (B := (BInt .i64)) (Z := ZInt) (bytes := 8) (sz := 1) Try.underlying77 (by kernel_rfl) (by kernel_rfl) (by decide) (fun _ => rfl) (0 : Int) (opens_int Try.underlying3)) n) (row_cons ((opens_slice (κ := (dI .i64)) (B := (BInt .i64)) (Z := ZInt) (bytes := 8) (sz := 1) Try.underlying77 (by kernel_rfl) (by kernel_rfl) (by decide) (fun _ => rfl) (0 : Int) (opens_int Try.underlying3)) n) (row_one ((opens_slice (κ := (dI .i64)) (B := (BInt .i64)) (Z := ZInt) (bytes := 8) (sz := 1) Try.underlying77 (by kernel_rfl) (by kernel_rfl) (by decide) (fun _ => rfl) (0 : Int) (opens_int Try.underlying3)) n))))))))))
structure Guest where
  Address : ByteArray
  State : Int
  deriving DecidableEq
@[go_sem] def Guest.d (x : Guest) : DVal := .agg [.v (.string x.Address), .v (.int .i64 x.State)]
@[go_sem] theorem Guest.al (l : List Guest) : allLen 2 (l.map Guest.d) = true := allLen_map (f := Guest.d) (n := 2) (fun _ => rfl) l
def Guest.z : Guest := ⟨ByteArray.empty, (0 : Int)⟩
def Guest.B (x : Guest) : Prop := BStr x.Address ∧ BInt .i64 x.State
def Guest.Z (x : Guest) : Nat := (ZStr x.Address + ZInt x.State) + 1
theorem Guest.o : Opens Try.prog 184 Guest.d Guest.B Guest.Z := opens_struct (fun y : (ByteArray × Int) => (⟨y.1, y.2⟩ : Guest)) (fun _ => rfl) (fun _ h => h) (fun _ => rfl) Try.underlying184 rfl (by kernel_rfl) (by kernel_rfl) (fun n => (row_cons ((opens_str Try.underlying9) n) (row_one ((opens_int Try.underlying3) n))))
structure Event where
  Uid : ByteArray
  Method : Int
  Sequence : Int
  Summary : ByteArray
  Place : ByteArray
  Organizer : ByteArray
  Guests : List Guest
  Zone : ByteArray
  Start : Date
  Length : Int
  Repeat : Recurrence
  deriving DecidableEq
@[go_sem] def Event.d (x : Event) : DVal := .agg [.v (.string x.Uid), .v (.int .i64 x.Method), .v (.int .i64 x.Sequence), .v (.string x.Summary), .v (.string x.Place), .v (.string x.Organizer), .list (x.Guests.map Guest.d), .v (.string x.Zone), .v (.int .i64 x.Start.Year), .v (.int .i64 x.Start.Month), .v (.int .i64 x.Start.Day), .v (.int .i64 x.Start.Hour), .v (.int .i64 x.Start.Minute), .v (.int .i64 x.Start.Second), .v (.int .i64 x.Start.Zone), .v (.int .i64 x.Length), .v (.int .i64 x.Repeat.Frequency), .v (.int .i64 x.Repeat.Every), .v (.int .i64 x.Repeat.Count), .v (.int .i64 x.Repeat.Until), .v (.bool x.Repeat.HasUntil), .list (x.Repeat.Weekdays.map (dI .i64)), .list (x.Repeat.Except.map (dI .i64)), .list (x.Repeat.Add.map (dI .i64))]
@[go_sem] theorem Event.al (l : List Event) : allLen 24 (l.map Event.d) = true := allLen_map (f := Event.d) (n := 24) (fun _ => rfl) l
def Event.z : Event := ⟨ByteArray.empty, (0 : Int), (0 : Int), ByteArray.empty, ByteArray.empty, ByteArray.empty, [], ByteArray.empty, Date.z, (0 : Int), Recurrence.z⟩
def Event.B (x : Event) : Prop := BStr x.Uid ∧ BInt .i64 x.Method ∧ BInt .i64 x.Sequence ∧ BStr x.Summary ∧ BStr x.Place ∧ BStr x.Organizer ∧ BSlice 24 Guest.B x.Guests ∧ BStr x.Zone ∧ Date.B x.Start ∧ BInt .i64 x.Length ∧ Recurrence.B x.Repeat
def Event.Z (x : Event) : Nat := (ZStr x.Uid + (ZInt x.Method + (ZInt x.Sequence + (ZStr x.Summary + (ZStr x.Place + (ZStr x.Organizer + (ZSlice Guest.Z x.Guests + (ZStr x.Zone + (Date.Z x.Start + (ZInt x.Length + Recurrence.Z x.Repeat)))))))))) + 1
theorem Event.o : Opens Try.prog 81 Event.d Event.B Event.Z := opens_struct (fun y : (ByteArray × (Int × (Int × (ByteArray × (ByteArray × (ByteArray × ((List Guest) × (ByteArray × (Date × (Int × Recurrence)))))))))) => (⟨y.1, y.2.1, y.2.2.1, y.2.2.2.1, y.2.2.2.2.1, y.2.2.2.2.2.1, y.2.2.2.2.2.2.1, y.2.2.2.2.2.2.2.1, y.2.2.2.2.2.2.2.2.1, y.2.2.2.2.2.2.2.2.2.1, y.2.2.2.2.2.2.2.2.2.2⟩ : Event)) (fun _ => rfl) (fun _ h => h) (fun _ => rfl) Try.underlying81 rfl (by kernel_rfl) (by kernel_rfl) (fun n => (row_cons ((opens_str Try.underlying9) n) (row_cons ((opens_int Try.underlying3) n) (row_cons ((opens_int Try.underlying3) n) (row_cons ((opens_str Try.underlying9) n) (row_cons ((opens_str Try.underlying9) n) (row_cons ((opens_str Try.underlying9) n) (row_cons ((opens_slice (κ := Guest.d) (B := Guest.B) (Z := Guest.Z) (bytes := 24) (sz := 2) Try.underlying74 (by kernel_rfl) (by kernel_rfl) (by decide) (fun _ => rfl) Guest.z Guest.o) n) (row_cons ((opens_str Try.underlying9) n) (row_cons (Date.o n) (row_cons ((opens_int Try.underlying3) n) (row_one (Recurrence.o n)))))))))))))
@[go_sem] theorem eqB4 (x y : Operand) (c d : Bool) : binV Try.prog .eql 4 x y (.bool c) (.bool d) = some (.bool (beqB c d)) := binV_beql Try.prog 4 x y Try.underlying4 c d
@[go_sem] theorem neB4 (x y : Operand) (c d : Bool) : binV Try.prog .neq 4 x y (.bool c) (.bool d) = some (.bool (!beqB c d)) := binV_bneq Try.prog 4 x y Try.underlying4 c d
@[go_sem] theorem lenS9 (ty : TypeId) (cs : Array Bool) (s : ByteArray) : builtinV Try.prog .len #[9] ty cs [.string s] = some (.int .i64 s.size) := len_str Try.underlying9 ty cs s
@[go_sem] theorem lenS10 (ty : TypeId) (cs : Array Bool) (s : ByteArray) : builtinV Try.prog .len #[10] ty cs [.string s] = some (.int .i64 s.size) := len_str Try.underlying10 ty cs s
@[go_sem] theorem lenS11 (ty : TypeId) (cs : Array Bool) (s : ByteArray) : builtinV Try.prog .len #[11] ty cs [.string s] = some (.int .i64 s.size) := len_str Try.underlying11 ty cs s
theorem fo24 : Try.prog.underlying 24 = some (.struct (Try.prog.fieldsOf 24)) := by kernel_rfl
theorem sh24 : Try.prog.stoodInHeld 24 = false := by kernel_rfl
@[go_sem] theorem eqS24 (x y : Operand) (a0 : Int) (a1 : Int) (b0 : Int) (b1 : Int) : binV Try.prog .eql 24 x y (.agg ⟨[.int .i64 a0, .int .i64 a1]⟩) (.agg ⟨[.int .i64 b0, .int .i64 b1]⟩) = some (.bool (ieq a0 b0 && ieq a1 b1)) := pr_of fun w => by
  have hg : Try.prog.eqGuardType Try.prog.depth 24 = false := by kernel_rfl
  simp only [binS, Sem.run_bind, run_eqGuard_agg _ _ _ _ _ _ _ hg, Result.andThen_ok, run_eql_struct]
  rw [run_equalIn_agg _ _ _ _ _ fo24 sh24]
  simp [Program.fieldsOf, Try.underlying24, Try.underlying3, Op.eqFields, Go.Fw.toList_beq, go_sem, fo24]
  by_cases h0 : a0 = b0 <;> by_cases h1 : a1 = b1 <;> simp [ieq, seqB, beqB, h0, h1]
@[go_sem] theorem neS24 (x y : Operand) (a0 : Int) (a1 : Int) (b0 : Int) (b1 : Int) : binV Try.prog .neq 24 x y (.agg ⟨[.int .i64 a0, .int .i64 a1]⟩) (.agg ⟨[.int .i64 b0, .int .i64 b1]⟩) = some (.bool (!(ieq a0 b0 && ieq a1 b1))) := pr_of fun w => by
  have hg : Try.prog.eqGuardType Try.prog.depth 24 = false := by kernel_rfl
  simp only [binS, Sem.run_bind, run_eqGuard_agg _ _ _ _ _ _ _ hg, Result.andThen_ok, run_neq_struct]
  rw [run_equalIn_agg _ _ _ _ _ fo24 sh24]
  simp [Program.fieldsOf, Try.underlying24, Try.underlying3, Op.eqFields, Go.Fw.toList_beq, go_sem, fo24]
  by_cases h0 : a0 = b0 <;> by_cases h1 : a1 = b1 <;> simp [ieq, seqB, beqB, h0, h1]
theorem fo28 : Try.prog.underlying 28 = some (.struct (Try.prog.fieldsOf 28)) := by kernel_rfl
theorem sh28 : Try.prog.stoodInHeld 28 = false := by kernel_rfl
@[go_sem] theorem eqS28 (x y : Operand) (a0 : Int) (a1 : Int) (b0 : Int) (b1 : Int) : binV Try.prog .eql 28 x y (.agg ⟨[.int .i64 a0, .int .i64 a1]⟩) (.agg ⟨[.int .i64 b0, .int .i64 b1]⟩) = some (.bool (ieq a0 b0 && ieq a1 b1)) := pr_of fun w => by
  have hg : Try.prog.eqGuardType Try.prog.depth 28 = false := by kernel_rfl
  simp only [binS, Sem.run_bind, run_eqGuard_agg _ _ _ _ _ _ _ hg, Result.andThen_ok, run_eql_struct]
  rw [run_equalIn_agg _ _ _ _ _ fo28 sh28]
  simp [Program.fieldsOf, Try.underlying28, Try.underlying3, Op.eqFields, Go.Fw.toList_beq, go_sem, fo28]
  by_cases h0 : a0 = b0 <;> by_cases h1 : a1 = b1 <;> simp [ieq, seqB, beqB, h0, h1]
@[go_sem] theorem neS28 (x y : Operand) (a0 : Int) (a1 : Int) (b0 : Int) (b1 : Int) : binV Try.prog .neq 28 x y (.agg ⟨[.int .i64 a0, .int .i64 a1]⟩) (.agg ⟨[.int .i64 b0, .int .i64 b1]⟩) = some (.bool (!(ieq a0 b0 && ieq a1 b1))) := pr_of fun w => by
  have hg : Try.prog.eqGuardType Try.prog.depth 28 = false := by kernel_rfl
  simp only [binS, Sem.run_bind, run_eqGuard_agg _ _ _ _ _ _ _ hg, Result.andThen_ok, run_neq_struct]
  rw [run_equalIn_agg _ _ _ _ _ fo28 sh28]
  simp [Program.fieldsOf, Try.underlying28, Try.underlying3, Op.eqFields, Go.Fw.toList_beq, go_sem, fo28]
  by_cases h0 : a0 = b0 <;> by_cases h1 : a1 = b1 <;> simp [ieq, seqB, beqB, h0, h1]
theorem fo37 : Try.prog.underlying 37 = some (.struct (Try.prog.fieldsOf 37)) := by kernel_rfl
theorem sh37 : Try.prog.stoodInHeld 37 = false := by kernel_rfl
@[go_sem] theorem eqS37 (x y : Operand) (a0 : ByteArray) (a1 : Int) (a2 : Int) (a3 : Int) (b0 : ByteArray) (b1 : Int) (b2 : Int) (b3 : Int) : binV Try.prog .eql 37 x y (.agg ⟨[.string a0, .int .i64 a1, .int .i64 a2, .int .i64 a3]⟩) (.agg ⟨[.string b0, .int .i64 b1, .int .i64 b2, .int .i64 b3]⟩) = some (.bool (seqB a0 b0 && ieq a1 b1 && ieq a2 b2 && ieq a3 b3)) := pr_of fun w => by
  have hg : Try.prog.eqGuardType Try.prog.depth 37 = false := by kernel_rfl
  simp only [binS, Sem.run_bind, run_eqGuard_agg _ _ _ _ _ _ _ hg, Result.andThen_ok, run_eql_struct]
  rw [run_equalIn_agg _ _ _ _ _ fo37 sh37]
  simp [Program.fieldsOf, Try.underlying24, Try.underlying3, Try.underlying37, Try.underlying9, Op.eqFields, Go.Fw.toList_beq, go_sem, run_equalIn_agg _ _ _ _ _ fo24 sh24]
  by_cases h0 : a0 = b0 <;> by_cases h1 : a1 = b1 <;> by_cases h2 : a2 = b2 <;> by_cases h3 : a3 = b3 <;> simp [ieq, seqB, beqB, h0, h1, h2, h3]
@[go_sem] theorem neS37 (x y : Operand) (a0 : ByteArray) (a1 : Int) (a2 : Int) (a3 : Int) (b0 : ByteArray) (b1 : Int) (b2 : Int) (b3 : Int) : binV Try.prog .neq 37 x y (.agg ⟨[.string a0, .int .i64 a1, .int .i64 a2, .int .i64 a3]⟩) (.agg ⟨[.string b0, .int .i64 b1, .int .i64 b2, .int .i64 b3]⟩) = some (.bool (!(seqB a0 b0 && ieq a1 b1 && ieq a2 b2 && ieq a3 b3))) := pr_of fun w => by
  have hg : Try.prog.eqGuardType Try.prog.depth 37 = false := by kernel_rfl
  simp only [binS, Sem.run_bind, run_eqGuard_agg _ _ _ _ _ _ _ hg, Result.andThen_ok, run_neq_struct]
  rw [run_equalIn_agg _ _ _ _ _ fo37 sh37]
  simp [Program.fieldsOf, Try.underlying24, Try.underlying3, Try.underlying37, Try.underlying9, Op.eqFields, Go.Fw.toList_beq, go_sem, run_equalIn_agg _ _ _ _ _ fo24 sh24]
  by_cases h0 : a0 = b0 <;> by_cases h1 : a1 = b1 <;> by_cases h2 : a2 = b2 <;> by_cases h3 : a3 = b3 <;> simp [ieq, seqB, beqB, h0, h1, h2, h3]
theorem fo71 : Try.prog.underlying 71 = some (.struct (Try.prog.fieldsOf 71)) := by kernel_rfl
theorem sh71 : Try.prog.stoodInHeld 71 = false := by kernel_rfl
@[go_sem] theorem eqS71 (x y : Operand) (a0 : Int) (a1 : Int) (a2 : Int) (a3 : Int) (b0 : Int) (b1 : Int) (b2 : Int) (b3 : Int) : binV Try.prog .eql 71 x y (.agg ⟨[.int .i64 a0, .int .i64 a1, .int .i64 a2, .int .i64 a3]⟩) (.agg ⟨[.int .i64 b0, .int .i64 b1, .int .i64 b2, .int .i64 b3]⟩) = some (.bool (ieq a0 b0 && ieq a1 b1 && ieq a2 b2 && ieq a3 b3)) := pr_of fun w => by
  have hg : Try.prog.eqGuardType Try.prog.depth 71 = false := by kernel_rfl
  simp only [binS, Sem.run_bind, run_eqGuard_agg _ _ _ _ _ _ _ hg, Result.andThen_ok, run_eql_struct]
  rw [run_equalIn_agg _ _ _ _ _ fo71 sh71]
  simp [Program.fieldsOf, Try.underlying3, Try.underlying71, Op.eqFields, Go.Fw.toList_beq, go_sem, fo71]
  by_cases h0 : a0 = b0 <;> by_cases h1 : a1 = b1 <;> by_cases h2 : a2 = b2 <;> by_cases h3 : a3 = b3 <;> simp [ieq, seqB, beqB, h0, h1, h2, h3]
@[go_sem] theorem neS71 (x y : Operand) (a0 : Int) (a1 : Int) (a2 : Int) (a3 : Int) (b0 : Int) (b1 : Int) (b2 : Int) (b3 : Int) : binV Try.prog .neq 71 x y (.agg ⟨[.int .i64 a0, .int .i64 a1, .int .i64 a2, .int .i64 a3]⟩) (.agg ⟨[.int .i64 b0, .int .i64 b1, .int .i64 b2, .int .i64 b3]⟩) = some (.bool (!(ieq a0 b0 && ieq a1 b1 && ieq a2 b2 && ieq a3 b3))) := pr_of fun w => by
  have hg : Try.prog.eqGuardType Try.prog.depth 71 = false := by kernel_rfl
  simp only [binS, Sem.run_bind, run_eqGuard_agg _ _ _ _ _ _ _ hg, Result.andThen_ok, run_neq_struct]
  rw [run_equalIn_agg _ _ _ _ _ fo71 sh71]
  simp [Program.fieldsOf, Try.underlying3, Try.underlying71, Op.eqFields, Go.Fw.toList_beq, go_sem, fo71]
  by_cases h0 : a0 = b0 <;> by_cases h1 : a1 = b1 <;> by_cases h2 : a2 = b2 <;> by_cases h3 : a3 = b3 <;> simp [ieq, seqB, beqB, h0, h1, h2, h3]
theorem fo73 : Try.prog.underlying 73 = some (.struct (Try.prog.fieldsOf 73)) := by kernel_rfl
theorem sh73 : Try.prog.stoodInHeld 73 = false := by kernel_rfl
@[go_sem] theorem eqS73 (x y : Operand) (a0 : ByteArray) (a1 : Int) (a2 : Int) (a3 : Int) (a4 : Int) (a5 : Int) (a6 : Int) (a7 : Int) (a8 : Int) (a9 : Int) (a10 : Int) (b0 : ByteArray) (b1 : Int) (b2 : Int) (b3 : Int) (b4 : Int) (b5 : Int) (b6 : Int) (b7 : Int) (b8 : Int) (b9 : Int) (b10 : Int) : binV Try.prog .eql 73 x y (.agg ⟨[.string a0, .int .i64 a1, .int .i64 a2, .int .i64 a3, .int .i64 a4, .int .i64 a5, .int .i64 a6, .int .i64 a7, .int .i64 a8, .int .i64 a9, .int .i64 a10]⟩) (.agg ⟨[.string b0, .int .i64 b1, .int .i64 b2, .int .i64 b3, .int .i64 b4, .int .i64 b5, .int .i64 b6, .int .i64 b7, .int .i64 b8, .int .i64 b9, .int .i64 b10]⟩) = some (.bool (seqB a0 b0 && ieq a1 b1 && ieq a2 b2 && ieq a3 b3 && ieq a4 b4 && ieq a5 b5 && ieq a6 b6 && ieq a7 b7 && ieq a8 b8 && ieq a9 b9 && ieq a10 b10)) := pr_of fun w => by
  have hg : Try.prog.eqGuardType Try.prog.depth 73 = false := by kernel_rfl
  simp only [binS, Sem.run_bind, run_eqGuard_agg _ _ _ _ _ _ _ hg, Result.andThen_ok, run_eql_struct]
  rw [run_equalIn_agg _ _ _ _ _ fo73 sh73]
  simp [Program.fieldsOf, Try.underlying3, Try.underlying71, Try.underlying73, Try.underlying9, Op.eqFields, Go.Fw.toList_beq, go_sem, run_equalIn_agg _ _ _ _ _ fo71 sh71, run_equalIn_agg _ _ _ _ _ fo71 sh71]
  by_cases h0 : a0 = b0 <;> by_cases h1 : a1 = b1 <;> by_cases h2 : a2 = b2 <;> by_cases h3 : a3 = b3 <;> by_cases h4 : a4 = b4 <;> by_cases h5 : a5 = b5 <;> by_cases h6 : a6 = b6 <;> by_cases h7 : a7 = b7 <;> by_cases h8 : a8 = b8 <;> by_cases h9 : a9 = b9 <;> by_cases h10 : a10 = b10 <;> simp [ieq, seqB, beqB, h0, h1, h2, h3, h4, h5, h6, h7, h8, h9, h10]
@[go_sem] theorem neS73 (x y : Operand) (a0 : ByteArray) (a1 : Int) (a2 : Int) (a3 : Int) (a4 : Int) (a5 : Int) (a6 : Int) (a7 : Int) (a8 : Int) (a9 : Int) (a10 : Int) (b0 : ByteArray) (b1 : Int) (b2 : Int) (b3 : Int) (b4 : Int) (b5 : Int) (b6 : Int) (b7 : Int) (b8 : Int) (b9 : Int) (b10 : Int) : binV Try.prog .neq 73 x y (.agg ⟨[.string a0, .int .i64 a1, .int .i64 a2, .int .i64 a3, .int .i64 a4, .int .i64 a5, .int .i64 a6, .int .i64 a7, .int .i64 a8, .int .i64 a9, .int .i64 a10]⟩) (.agg ⟨[.string b0, .int .i64 b1, .int .i64 b2, .int .i64 b3, .int .i64 b4, .int .i64 b5, .int .i64 b6, .int .i64 b7, .int .i64 b8, .int .i64 b9, .int .i64 b10]⟩) = some (.bool (!(seqB a0 b0 && ieq a1 b1 && ieq a2 b2 && ieq a3 b3 && ieq a4 b4 && ieq a5 b5 && ieq a6 b6 && ieq a7 b7 && ieq a8 b8 && ieq a9 b9 && ieq a10 b10))) := pr_of fun w => by
  have hg : Try.prog.eqGuardType Try.prog.depth 73 = false := by kernel_rfl
  simp only [binS, Sem.run_bind, run_eqGuard_agg _ _ _ _ _ _ _ hg, Result.andThen_ok, run_neq_struct]
  rw [run_equalIn_agg _ _ _ _ _ fo73 sh73]
  simp [Program.fieldsOf, Try.underlying3, Try.underlying71, Try.underlying73, Try.underlying9, Op.eqFields, Go.Fw.toList_beq, go_sem, run_equalIn_agg _ _ _ _ _ fo71 sh71, run_equalIn_agg _ _ _ _ _ fo71 sh71]
  by_cases h0 : a0 = b0 <;> by_cases h1 : a1 = b1 <;> by_cases h2 : a2 = b2 <;> by_cases h3 : a3 = b3 <;> by_cases h4 : a4 = b4 <;> by_cases h5 : a5 = b5 <;> by_cases h6 : a6 = b6 <;> by_cases h7 : a7 = b7 <;> by_cases h8 : a8 = b8 <;> by_cases h9 : a9 = b9 <;> by_cases h10 : a10 = b10 <;> simp [ieq, seqB, beqB, h0, h1, h2, h3, h4, h5, h6, h7, h8, h9, h10]
theorem fo76 : Try.prog.underlying 76 = some (.struct (Try.prog.fieldsOf 76)) := by kernel_rfl
theorem sh76 : Try.prog.stoodInHeld 76 = false := by kernel_rfl
@[go_sem] theorem eqS76 (x y : Operand) (a0 : Int) (a1 : Int) (a2 : Int) (a3 : Int) (a4 : Int) (a5 : Int) (a6 : Int) (b0 : Int) (b1 : Int) (b2 : Int) (b3 : Int) (b4 : Int) (b5 : Int) (b6 : Int) : binV Try.prog .eql 76 x y (.agg ⟨[.int .i64 a0, .int .i64 a1, .int .i64 a2, .int .i64 a3, .int .i64 a4, .int .i64 a5, .int .i64 a6]⟩) (.agg ⟨[.int .i64 b0, .int .i64 b1, .int .i64 b2, .int .i64 b3, .int .i64 b4, .int .i64 b5, .int .i64 b6]⟩) = some (.bool (ieq a0 b0 && ieq a1 b1 && ieq a2 b2 && ieq a3 b3 && ieq a4 b4 && ieq a5 b5 && ieq a6 b6)) := pr_of fun w => by
  have hg : Try.prog.eqGuardType Try.prog.depth 76 = false := by kernel_rfl
  simp only [binS, Sem.run_bind, run_eqGuard_agg _ _ _ _ _ _ _ hg, Result.andThen_ok, run_eql_struct]
  rw [run_equalIn_agg _ _ _ _ _ fo76 sh76]
  simp [Program.fieldsOf, Try.underlying3, Try.underlying76, Op.eqFields, Go.Fw.toList_beq, go_sem, fo76]
  by_cases h0 : a0 = b0 <;> by_cases h1 : a1 = b1 <;> by_cases h2 : a2 = b2 <;> by_cases h3 : a3 = b3 <;> by_cases h4 : a4 = b4 <;> by_cases h5 : a5 = b5 <;> by_cases h6 : a6 = b6 <;> simp [ieq, seqB, beqB, h0, h1, h2, h3, h4, h5, h6]
@[go_sem] theorem neS76 (x y : Operand) (a0 : Int) (a1 : Int) (a2 : Int) (a3 : Int) (a4 : Int) (a5 : Int) (a6 : Int) (b0 : Int) (b1 : Int) (b2 : Int) (b3 : Int) (b4 : Int) (b5 : Int) (b6 : Int) : binV Try.prog .neq 76 x y (.agg ⟨[.int .i64 a0, .int .i64 a1, .int .i64 a2, .int .i64 a3, .int .i64 a4, .int .i64 a5, .int .i64 a6]⟩) (.agg ⟨[.int .i64 b0, .int .i64 b1, .int .i64 b2, .int .i64 b3, .int .i64 b4, .int .i64 b5, .int .i64 b6]⟩) = some (.bool (!(ieq a0 b0 && ieq a1 b1 && ieq a2 b2 && ieq a3 b3 && ieq a4 b4 && ieq a5 b5 && ieq a6 b6))) := pr_of fun w => by
  have hg : Try.prog.eqGuardType Try.prog.depth 76 = false := by kernel_rfl
  simp only [binS, Sem.run_bind, run_eqGuard_agg _ _ _ _ _ _ _ hg, Result.andThen_ok, run_neq_struct]
  rw [run_equalIn_agg _ _ _ _ _ fo76 sh76]
  simp [Program.fieldsOf, Try.underlying3, Try.underlying76, Op.eqFields, Go.Fw.toList_beq, go_sem, fo76]
  by_cases h0 : a0 = b0 <;> by_cases h1 : a1 = b1 <;> by_cases h2 : a2 = b2 <;> by_cases h3 : a3 = b3 <;> by_cases h4 : a4 = b4 <;> by_cases h5 : a5 = b5 <;> by_cases h6 : a6 = b6 <;> simp [ieq, seqB, beqB, h0, h1, h2, h3, h4, h5, h6]
theorem fo184 : Try.prog.underlying 184 = some (.struct (Try.prog.fieldsOf 184)) := by kernel_rfl
theorem sh184 : Try.prog.stoodInHeld 184 = false := by kernel_rfl
@[go_sem] theorem eqS184 (x y : Operand) (a0 : ByteArray) (a1 : Int) (b0 : ByteArray) (b1 : Int) : binV Try.prog .eql 184 x y (.agg ⟨[.string a0, .int .i64 a1]⟩) (.agg ⟨[.string b0, .int .i64 b1]⟩) = some (.bool (seqB a0 b0 && ieq a1 b1)) := pr_of fun w => by
  have hg : Try.prog.eqGuardType Try.prog.depth 184 = false := by kernel_rfl
  simp only [binS, Sem.run_bind, run_eqGuard_agg _ _ _ _ _ _ _ hg, Result.andThen_ok, run_eql_struct]
  rw [run_equalIn_agg _ _ _ _ _ fo184 sh184]
  simp [Program.fieldsOf, Try.underlying184, Try.underlying3, Try.underlying9, Op.eqFields, Go.Fw.toList_beq, go_sem, fo184]
  by_cases h0 : a0 = b0 <;> by_cases h1 : a1 = b1 <;> simp [ieq, seqB, beqB, h0, h1]
@[go_sem] theorem neS184 (x y : Operand) (a0 : ByteArray) (a1 : Int) (b0 : ByteArray) (b1 : Int) : binV Try.prog .neq 184 x y (.agg ⟨[.string a0, .int .i64 a1]⟩) (.agg ⟨[.string b0, .int .i64 b1]⟩) = some (.bool (!(seqB a0 b0 && ieq a1 b1))) := pr_of fun w => by
  have hg : Try.prog.eqGuardType Try.prog.depth 184 = false := by kernel_rfl
  simp only [binS, Sem.run_bind, run_eqGuard_agg _ _ _ _ _ _ _ hg, Result.andThen_ok, run_neq_struct]
  rw [run_equalIn_agg _ _ _ _ _ fo184 sh184]
  simp [Program.fieldsOf, Try.underlying184, Try.underlying3, Try.underlying9, Op.eqFields, Go.Fw.toList_beq, go_sem, fo184]
  by_cases h0 : a0 = b0 <;> by_cases h1 : a1 = b1 <;> simp [ieq, seqB, beqB, h0, h1]
end Go.Fw
/- Meeting: the small functions. -/
set_option linter.unusedSimpArgs false
set_option linter.unusedVariables false
namespace Go.Fw
open Go Go.Proofs Go.Proofs.Ytpgnhajindbhlaa.Ty
def inB (a b c : Int) : Bool := decide (b ≤ a) && decide (a ≤ c)
theorem at_c (c i : Int) : PCalls Try.prog 21 [.v (.int .i64 c), .v (.int .i64 i)] (.d (.agg [.v (.int .i64 c), .v (.int .i64 i)])) := by
  refine pcalls_of_awp Try.func21 rfl (by kernel_rfl) (by simp [Try.ntmps21]) ?_
  repeat' (first | (refine awp_seq_n fun N => ?_) | ((first | refine awp_reg ?_ | refine awp_skip ?_ | refine awp_ret ?_); (simp only [go_sem, ↓reduceIte, Nat.reduceBEq, Nat.reduceLT, Nat.reduceLeDiff, Nat.reduceAdd, Nat.reduceSub, Nat.reduceMul, Nat.reduceEqDiff, Int.reduceLT, Int.reduceLE, Int.reduceAdd, Int.reduceSub, Int.reduceToNat, reduceCtorEq, Try.ntmps21, Try.results21])) | (refine goN _ ?_) | fail)
theorem in_c (a b c : Int) : PCalls Try.prog 22 [.v (.int .i64 a), .v (.int .i64 b), .v (.int .i64 c)] (.d (.v (.bool (inB a b c)))) := by
  refine pcalls_of_awp Try.func22 rfl (by kernel_rfl) (by simp [Try.ntmps22]) ?_
  repeat' (first | (refine awp_seq_n fun N => ?_) | ((first | refine awp_reg ?_ | refine awp_skip ?_ | refine awp_ret ?_); (simp only [go_sem, ↓reduceIte, Nat.reduceBEq, Nat.reduceLT, Nat.reduceLeDiff, Nat.reduceAdd, Nat.reduceSub, Nat.reduceMul, Nat.reduceEqDiff, Int.reduceLT, Int.reduceLE, Int.reduceAdd, Int.reduceSub, Int.reduceToNat, reduceCtorEq, Try.ntmps22, Try.results22])) | ((first | refine aGo_splitN (fun hif => ?_) (fun hif => ?_) | refine aGo_split (fun hif => ?_) (fun hif => ?_)) <;> (simp only [go_sem, ↓reduceIte, Nat.reduceBEq, Nat.reduceLT, Nat.reduceLeDiff, Nat.reduceAdd, Nat.reduceSub, Nat.reduceMul, Nat.reduceEqDiff, Int.reduceLT, Int.reduceLE, Int.reduceAdd, Int.reduceSub, Int.reduceToNat, reduceCtorEq, hif, Try.ntmps22, Try.results22])) | (refine goN _ ?_) | fail)
  all_goals (simp [inB, *])
def validB (f t : Int) : Bool := decide (-68719476736 ≤ f) && decide (t ≤ 68719476736) && decide (f < t)
theorem valid_c (f t : Int) : PCalls Try.prog 43 [.agg [.v (.int .i64 f), .v (.int .i64 t)]] (.d (.v (.bool (validB f t)))) := by
  refine pcalls_of_awp Try.func43 rfl (by kernel_rfl) (by simp [Try.ntmps43]) ?_
  repeat' (first | (refine awp_seq_n fun N => ?_) | ((first | refine awp_reg ?_ | refine awp_skip ?_ | refine awp_ret ?_); (simp only [go_sem, ↓reduceIte, Nat.reduceBEq, Nat.reduceLT, Nat.reduceLeDiff, Nat.reduceAdd, Nat.reduceSub, Nat.reduceMul, Nat.reduceEqDiff, Int.reduceLT, Int.reduceLE, Int.reduceAdd, Int.reduceSub, Int.reduceToNat, reduceCtorEq, Try.ntmps43, Try.results43])) | ((first | refine aGo_splitN (fun hif => ?_) (fun hif => ?_) | refine aGo_split (fun hif => ?_) (fun hif => ?_)) <;> (simp only [go_sem, ↓reduceIte, Nat.reduceBEq, Nat.reduceLT, Nat.reduceLeDiff, Nat.reduceAdd, Nat.reduceSub, Nat.reduceMul, Nat.reduceEqDiff, Int.reduceLT, Int.reduceLE, Int.reduceAdd, Int.reduceSub, Int.reduceToNat, reduceCtorEq, hif, Try.ntmps43, Try.results43])) | (refine goN _ ?_) | fail)
  all_goals (simp [validB, *])
theorem instant_c (a : Int) : PCalls Try.prog 49 [.v (.int .i64 a)] (.d (.v (.bool (inB a (-68719476736) 68719476736)))) := by
  refine pcalls_of_awp Try.func49 rfl (by kernel_rfl) (by simp [Try.ntmps49]) ?_
  repeat' (first | (refine awp_seq_n fun N => ?_) | ((first | refine awp_reg ?_ | refine awp_skip ?_ | refine awp_ret ?_ | refine callOk_data (in_c _ _ _) (by (simp only [go_sem, ↓reduceIte, Nat.reduceBEq, Nat.reduceLT, Nat.reduceLeDiff, Nat.reduceAdd, Nat.reduceSub, Nat.reduceMul, Nat.reduceEqDiff, Int.reduceLT, Int.reduceLE, Int.reduceAdd, Int.reduceSub, Int.reduceToNat, reduceCtorEq, Try.ntmps49, Try.results49]) <;> rfl) ?_); (simp only [go_sem, ↓reduceIte, Nat.reduceBEq, Nat.reduceLT, Nat.reduceLeDiff, Nat.reduceAdd, Nat.reduceSub, Nat.reduceMul, Nat.reduceEqDiff, Int.reduceLT, Int.reduceLE, Int.reduceAdd, Int.reduceSub, Int.reduceToNat, reduceCtorEq, Try.ntmps49, Try.results49])) | (refine goN _ ?_) | fail)
  all_goals (simp [inB, *])
theorem proposable_c (f t : Int) : PCalls Try.prog 23 [.agg [.v (.int .i64 f), .v (.int .i64 t)]] (.d (.v (.bool (inB f (-68719476736) 68719476736 && inB t (-68719476736) 68719476736 && decide (f < t))))) := by
  refine pcalls_of_awp Try.func23 rfl (by kernel_rfl) (by simp [Try.ntmps23]) ?_
  repeat' (first | (refine awp_seq_n fun N => ?_) | ((first | refine awp_reg ?_ | refine awp_skip ?_ | refine awp_ret ?_ | refine callOk_data (instant_c _) (by (simp only [go_sem, ↓reduceIte, Nat.reduceBEq, Nat.reduceLT, Nat.reduceLeDiff, Nat.reduceAdd, Nat.reduceSub, Nat.reduceMul, Nat.reduceEqDiff, Int.reduceLT, Int.reduceLE, Int.reduceAdd, Int.reduceSub, Int.reduceToNat, reduceCtorEq, Try.ntmps23, Try.results23]) <;> rfl) ?_); (simp only [go_sem, ↓reduceIte, Nat.reduceBEq, Nat.reduceLT, Nat.reduceLeDiff, Nat.reduceAdd, Nat.reduceSub, Nat.reduceMul, Nat.reduceEqDiff, Int.reduceLT, Int.reduceLE, Int.reduceAdd, Int.reduceSub, Int.reduceToNat, reduceCtorEq, Try.ntmps23, Try.results23])) | ((first | refine aGo_splitN (fun hif => ?_) (fun hif => ?_) | refine aGo_split (fun hif => ?_) (fun hif => ?_)) <;> (simp only [go_sem, ↓reduceIte, Nat.reduceBEq, Nat.reduceLT, Nat.reduceLeDiff, Nat.reduceAdd, Nat.reduceSub, Nat.reduceMul, Nat.reduceEqDiff, Int.reduceLT, Int.reduceLE, Int.reduceAdd, Int.reduceSub, Int.reduceToNat, reduceCtorEq, hif, Try.ntmps23, Try.results23])) | (refine goN _ ?_) | fail)
  all_goals (simp [*])
end Go.Fw
/- Freebusy: the checks of periods and spans. -/
set_option linter.unusedSimpArgs false
set_option linter.unusedVariables false
set_option maxRecDepth 20000
set_option maxHeartbeats 4000000
namespace Go.Fw
open Go Go.Proofs Go.Proofs.Ytpgnhajindbhlaa.Ty
def inst (t : Int) : Bool := decide (-68719476736 ≤ t) && decide (t ≤ 68719476736)
theorem within_c (t : Int) : PCalls Try.prog 79 [.v (.int .i64 t)] (.d (.v (.bool (inst t)))) := by
  refine pcalls_of_awp Try.func79 rfl (by kernel_rfl) (by simp [Try.ntmps79]) ?_
  repeat' (first | (refine awp_seq_n fun N => ?_) | ((first | refine awp_reg ?_ | refine awp_skip ?_ | refine awp_ret ?_); (simp only [go_sem, ↓reduceIte, Nat.reduceBEq, Nat.reduceLT, Nat.reduceLeDiff, Nat.reduceAdd, Nat.reduceSub, Nat.reduceMul, Nat.reduceEqDiff, Int.reduceLT, Int.reduceLE, Int.reduceAdd, Int.reduceSub, Int.reduceToNat, reduceCtorEq, Try.ntmps79, Try.results79])) | ((first | refine aGo_splitN (fun hif => ?_) (fun hif => ?_) | refine aGo_split (fun hif => ?_) (fun hif => ?_)) <;> (simp only [go_sem, ↓reduceIte, Nat.reduceBEq, Nat.reduceLT, Nat.reduceLeDiff, Nat.reduceAdd, Nat.reduceSub, Nat.reduceMul, Nat.reduceEqDiff, Int.reduceLT, Int.reduceLE, Int.reduceAdd, Int.reduceSub, Int.reduceToNat, reduceCtorEq, hif, Try.ntmps79, Try.results79])) | (refine goN _ ?_) | fail)
  all_goals (simp [inst, *])
def perAt (l : List Period) (i : Nat) : Option Fault := match l[i]? with
  | none => none
  | some p => bif !inst p.From || !inst p.To then some ⟨3, i⟩ else bif decide (p.To < p.From) then some ⟨19, i⟩ else none
theorem perAt_eq {l : List Period} {k : Nat} (h : k < l.length) : perAt l k = bif !inst l[k].From || !inst l[k].To then some ⟨3, k⟩ else bif decide (l[k].To < l[k].From) then some ⟨19, k⟩ else none := by
  simp [perAt, h]
def perF (l : List Period) : Fault := if 500 < (l.length : Int) then ⟨2, -1⟩ else firstF l.length (perAt l) ⟨0, 0⟩
theorem instant_i (a : Int) : PCalls Try.prog 49 [.v (.int .i64 a)] (.d (.v (.bool (inst a)))) := instant_c a
theorem periodsFault_c (l : List Period) (hb : l.length < 9223372036854775807) : PCalls Try.prog 30 [.list (l.map Period.d)] (.d (perF l).d) := by
  refine pcalls_of_awp Try.func30 rfl (by kernel_rfl) (by simp [Try.ntmps30]) ?_
  repeat' (first | (refine awp_seq_n fun N => ?_) | ((first | refine awp_reg ?_ | refine awp_draw' (by kernel_rfl) (by kernel_rfl) (fun O Al hO hA => ?_) | refine awp_exit ?_ | refine awp_skip ?_ | refine awp_ret ?_ | refine callOk_data (at_c ..) (by (simp only [go_sem, ↓reduceIte, Nat.reduceBEq, Nat.reduceLT, Nat.reduceLeDiff, Nat.reduceAdd, Nat.reduceSub, Nat.reduceMul, Nat.reduceEqDiff, Int.reduceLT, Int.reduceLE, Int.reduceAdd, Int.reduceSub, Int.reduceToNat, reduceCtorEq, Try.ntmps30, Try.results30]) <;> rfl) ?_ | refine dcall (at_c ..) (by (simp only [go_sem, ↓reduceIte, Nat.reduceBEq, Nat.reduceLT, Nat.reduceLeDiff, Nat.reduceAdd, Nat.reduceSub, Nat.reduceMul, Nat.reduceEqDiff, Int.reduceLT, Int.reduceLE, Int.reduceAdd, Int.reduceSub, Int.reduceToNat, reduceCtorEq, Try.ntmps30, Try.results30])) (by (simp only [go_sem, ↓reduceIte, Nat.reduceBEq, Nat.reduceLT, Nat.reduceLeDiff, Nat.reduceAdd, Nat.reduceSub, Nat.reduceMul, Nat.reduceEqDiff, Int.reduceLT, Int.reduceLE, Int.reduceAdd, Int.reduceSub, Int.reduceToNat, reduceCtorEq, Try.ntmps30, Try.results30]) <;> rfl) (by first | rfl | (simp only [go_sem, ↓reduceIte, Nat.reduceBEq, Nat.reduceLT, Nat.reduceLeDiff, Nat.reduceAdd, Nat.reduceSub, Nat.reduceMul, Nat.reduceEqDiff, Int.reduceLT, Int.reduceLE, Int.reduceAdd, Int.reduceSub, Int.reduceToNat, reduceCtorEq, Try.ntmps30, Try.results30])) ?_ | refine callOk_data (instant_i ..) (by (simp only [go_sem, ↓reduceIte, Nat.reduceBEq, Nat.reduceLT, Nat.reduceLeDiff, Nat.reduceAdd, Nat.reduceSub, Nat.reduceMul, Nat.reduceEqDiff, Int.reduceLT, Int.reduceLE, Int.reduceAdd, Int.reduceSub, Int.reduceToNat, reduceCtorEq, Try.ntmps30, Try.results30]) <;> rfl) ?_ | refine dcall (instant_i ..) (by (simp only [go_sem, ↓reduceIte, Nat.reduceBEq, Nat.reduceLT, Nat.reduceLeDiff, Nat.reduceAdd, Nat.reduceSub, Nat.reduceMul, Nat.reduceEqDiff, Int.reduceLT, Int.reduceLE, Int.reduceAdd, Int.reduceSub, Int.reduceToNat, reduceCtorEq, Try.ntmps30, Try.results30])) (by (simp only [go_sem, ↓reduceIte, Nat.reduceBEq, Nat.reduceLT, Nat.reduceLeDiff, Nat.reduceAdd, Nat.reduceSub, Nat.reduceMul, Nat.reduceEqDiff, Int.reduceLT, Int.reduceLE, Int.reduceAdd, Int.reduceSub, Int.reduceToNat, reduceCtorEq, Try.ntmps30, Try.results30]) <;> rfl) (by first | rfl | (simp only [go_sem, ↓reduceIte, Nat.reduceBEq, Nat.reduceLT, Nat.reduceLeDiff, Nat.reduceAdd, Nat.reduceSub, Nat.reduceMul, Nat.reduceEqDiff, Int.reduceLT, Int.reduceLE, Int.reduceAdd, Int.reduceSub, Int.reduceToNat, reduceCtorEq, Try.ntmps30, Try.results30])) ?_); (simp only [go_sem, ↓reduceIte, Nat.reduceBEq, Nat.reduceLT, Nat.reduceLeDiff, Nat.reduceAdd, Nat.reduceSub, Nat.reduceMul, Nat.reduceEqDiff, Int.reduceLT, Int.reduceLE, Int.reduceAdd, Int.reduceSub, Int.reduceToNat, reduceCtorEq, Try.ntmps30, Try.results30])) | ((first | refine dGo_splitN (fun hif => ?_) (fun hif => ?_) | refine dGo_split (fun hif => ?_) (fun hif => ?_) | refine aGo_splitN (fun hif => ?_) (fun hif => ?_) | refine aGo_split (fun hif => ?_) (fun hif => ?_)) <;> (simp only [go_sem, ↓reduceIte, Nat.reduceBEq, Nat.reduceLT, Nat.reduceLeDiff, Nat.reduceAdd, Nat.reduceSub, Nat.reduceMul, Nat.reduceEqDiff, Int.reduceLT, Int.reduceLE, Int.reduceAdd, Int.reduceSub, Int.reduceToNat, reduceCtorEq, hif, Try.ntmps30, Try.results30])) | (refine awp_block ?_) | (first | refine awp_condT (by (simp only [go_sem, ↓reduceIte, Nat.reduceBEq, Nat.reduceLT, Nat.reduceLeDiff, Nat.reduceAdd, Nat.reduceSub, Nat.reduceMul, Nat.reduceEqDiff, Int.reduceLT, Int.reduceLE, Int.reduceAdd, Int.reduceSub, Int.reduceToNat, reduceCtorEq, Try.ntmps30, Try.results30]); rfl) (by first | rfl | assumption) ?_ | refine awp_condF (by (simp only [go_sem, ↓reduceIte, Nat.reduceBEq, Nat.reduceLT, Nat.reduceLeDiff, Nat.reduceAdd, Nat.reduceSub, Nat.reduceMul, Nat.reduceEqDiff, Int.reduceLT, Int.reduceLE, Int.reduceAdd, Int.reduceSub, Int.reduceToNat, reduceCtorEq, Try.ntmps30, Try.results30]); rfl) (by first | rfl | assumption) ?_) | (refine awp_cond (by (simp only [go_sem, ↓reduceIte, Nat.reduceBEq, Nat.reduceLT, Nat.reduceLeDiff, Nat.reduceAdd, Nat.reduceSub, Nat.reduceMul, Nat.reduceEqDiff, Int.reduceLT, Int.reduceLE, Int.reduceAdd, Int.reduceSub, Int.reduceToNat, reduceCtorEq, Try.ntmps30, Try.results30]); rfl) (fun hcd => ?_) (fun hcd => ?_) <;> (try (exact Bool.noConfusion hcd))) | (first | (refine goN_at 8 [0, 2, 3] [2] _ rfl ?_; (simp only [go_sem, ↓reduceIte, Nat.reduceBEq, Nat.reduceLT, Nat.reduceLeDiff, Nat.reduceAdd, Nat.reduceSub, Nat.reduceMul, Nat.reduceEqDiff, Int.reduceLT, Int.reduceLE, Int.reduceAdd, Int.reduceSub, Int.reduceToNat, reduceCtorEq])) | (refine goN_at 10 [2] [2] _ rfl ?_; (simp only [go_sem, ↓reduceIte, Nat.reduceBEq, Nat.reduceLT, Nat.reduceLeDiff, Nat.reduceAdd, Nat.reduceSub, Nat.reduceMul, Nat.reduceEqDiff, Int.reduceLT, Int.reduceLE, Int.reduceAdd, Int.reduceSub, Int.reduceToNat, reduceCtorEq])) | refine goN _ ?_) | (refine ⟨by (subst hO hA; kernel_rfl), ?_⟩) | fail)
  · simp_all [perF]
  · have hin : perF l = firstF l.length (perAt l) ⟨0, 0⟩ := by
      unfold perF
      rw [if_neg (of_decide_eq_false (by assumption))]
    refine awp_loopU [0, 2, 3] [2] (fun k : Nat => [(3, .d (.v (.int .i64 k)))]) (fun _ => []) (fun k => k ≤ l.length ∧ ∀ j, j < k → perAt l j = none) (fun k => l.length - k) 0 (by simp only [go_sem, ↓reduceIte, Nat.reduceBEq, Nat.reduceLT, Nat.reduceLeDiff, Nat.reduceAdd, Nat.reduceSub, Nat.reduceMul, Nat.reduceEqDiff, Int.reduceLT, Int.reduceLE, Int.reduceAdd, Int.reduceSub, Int.reduceToNat, reduceCtorEq]; rfl) (by simp only [go_sem, ↓reduceIte, Nat.reduceBEq, Nat.reduceLT, Nat.reduceLeDiff, Nat.reduceAdd, Nat.reduceSub, Nat.reduceMul, Nat.reduceEqDiff, Int.reduceLT, Int.reduceLE, Int.reduceAdd, Int.reduceSub, Int.reduceToNat, reduceCtorEq]; rfl) ⟨by simp, by simp⟩ ?_
    rintro k ⟨hk, hne⟩
    by_cases hlt : k < l.length
    · repeat' (first | (refine awp_seq_n fun N => ?_) | ((first | refine awp_reg ?_ | refine awp_draw' (by kernel_rfl) (by kernel_rfl) (fun O Al hO hA => ?_) | refine awp_exit ?_ | refine awp_skip ?_ | refine awp_ret ?_ | refine callOk_data (at_c ..) (by (simp only [go_sem, ↓reduceIte, Nat.reduceBEq, Nat.reduceLT, Nat.reduceLeDiff, Nat.reduceAdd, Nat.reduceSub, Nat.reduceMul, Nat.reduceEqDiff, Int.reduceLT, Int.reduceLE, Int.reduceAdd, Int.reduceSub, Int.reduceToNat, reduceCtorEq, hlt, map_at hlt, Try.results30]) <;> rfl) ?_ | refine dcall (at_c ..) (by (simp only [go_sem, ↓reduceIte, Nat.reduceBEq, Nat.reduceLT, Nat.reduceLeDiff, Nat.reduceAdd, Nat.reduceSub, Nat.reduceMul, Nat.reduceEqDiff, Int.reduceLT, Int.reduceLE, Int.reduceAdd, Int.reduceSub, Int.reduceToNat, reduceCtorEq, hlt, map_at hlt, Try.results30])) (by (simp only [go_sem, ↓reduceIte, Nat.reduceBEq, Nat.reduceLT, Nat.reduceLeDiff, Nat.reduceAdd, Nat.reduceSub, Nat.reduceMul, Nat.reduceEqDiff, Int.reduceLT, Int.reduceLE, Int.reduceAdd, Int.reduceSub, Int.reduceToNat, reduceCtorEq, hlt, map_at hlt, Try.results30]) <;> rfl) (by first | rfl | (simp only [go_sem, ↓reduceIte, Nat.reduceBEq, Nat.reduceLT, Nat.reduceLeDiff, Nat.reduceAdd, Nat.reduceSub, Nat.reduceMul, Nat.reduceEqDiff, Int.reduceLT, Int.reduceLE, Int.reduceAdd, Int.reduceSub, Int.reduceToNat, reduceCtorEq, hlt, map_at hlt, Try.results30])) ?_ | refine callOk_data (instant_i ..) (by (simp only [go_sem, ↓reduceIte, Nat.reduceBEq, Nat.reduceLT, Nat.reduceLeDiff, Nat.reduceAdd, Nat.reduceSub, Nat.reduceMul, Nat.reduceEqDiff, Int.reduceLT, Int.reduceLE, Int.reduceAdd, Int.reduceSub, Int.reduceToNat, reduceCtorEq, hlt, map_at hlt, Try.results30]) <;> rfl) ?_ | refine dcall (instant_i ..) (by (simp only [go_sem, ↓reduceIte, Nat.reduceBEq, Nat.reduceLT, Nat.reduceLeDiff, Nat.reduceAdd, Nat.reduceSub, Nat.reduceMul, Nat.reduceEqDiff, Int.reduceLT, Int.reduceLE, Int.reduceAdd, Int.reduceSub, Int.reduceToNat, reduceCtorEq, hlt, map_at hlt, Try.results30])) (by (simp only [go_sem, ↓reduceIte, Nat.reduceBEq, Nat.reduceLT, Nat.reduceLeDiff, Nat.reduceAdd, Nat.reduceSub, Nat.reduceMul, Nat.reduceEqDiff, Int.reduceLT, Int.reduceLE, Int.reduceAdd, Int.reduceSub, Int.reduceToNat, reduceCtorEq, hlt, map_at hlt, Try.results30]) <;> rfl) (by first | rfl | (simp only [go_sem, ↓reduceIte, Nat.reduceBEq, Nat.reduceLT, Nat.reduceLeDiff, Nat.reduceAdd, Nat.reduceSub, Nat.reduceMul, Nat.reduceEqDiff, Int.reduceLT, Int.reduceLE, Int.reduceAdd, Int.reduceSub, Int.reduceToNat, reduceCtorEq, hlt, map_at hlt, Try.results30])) ?_); (simp only [go_sem, ↓reduceIte, Nat.reduceBEq, Nat.reduceLT, Nat.reduceLeDiff, Nat.reduceAdd, Nat.reduceSub, Nat.reduceMul, Nat.reduceEqDiff, Int.reduceLT, Int.reduceLE, Int.reduceAdd, Int.reduceSub, Int.reduceToNat, reduceCtorEq, hlt, map_at hlt, Try.results30])) | ((first | refine dGo_splitN (fun hif => ?_) (fun hif => ?_) | refine dGo_split (fun hif => ?_) (fun hif => ?_) | refine aGo_splitN (fun hif => ?_) (fun hif => ?_) | refine aGo_split (fun hif => ?_) (fun hif => ?_)) <;> (simp only [go_sem, ↓reduceIte, Nat.reduceBEq, Nat.reduceLT, Nat.reduceLeDiff, Nat.reduceAdd, Nat.reduceSub, Nat.reduceMul, Nat.reduceEqDiff, Int.reduceLT, Int.reduceLE, Int.reduceAdd, Int.reduceSub, Int.reduceToNat, reduceCtorEq, hif, hlt, map_at hlt, Try.results30])) | (refine awp_block ?_) | (first | refine awp_condT (by (simp only [go_sem, ↓reduceIte, Nat.reduceBEq, Nat.reduceLT, Nat.reduceLeDiff, Nat.reduceAdd, Nat.reduceSub, Nat.reduceMul, Nat.reduceEqDiff, Int.reduceLT, Int.reduceLE, Int.reduceAdd, Int.reduceSub, Int.reduceToNat, reduceCtorEq, hlt, map_at hlt, Try.results30]); rfl) (by first | rfl | assumption) ?_ | refine awp_condF (by (simp only [go_sem, ↓reduceIte, Nat.reduceBEq, Nat.reduceLT, Nat.reduceLeDiff, Nat.reduceAdd, Nat.reduceSub, Nat.reduceMul, Nat.reduceEqDiff, Int.reduceLT, Int.reduceLE, Int.reduceAdd, Int.reduceSub, Int.reduceToNat, reduceCtorEq, hlt, map_at hlt, Try.results30]); rfl) (by first | rfl | assumption) ?_) | (refine awp_cond (by (simp only [go_sem, ↓reduceIte, Nat.reduceBEq, Nat.reduceLT, Nat.reduceLeDiff, Nat.reduceAdd, Nat.reduceSub, Nat.reduceMul, Nat.reduceEqDiff, Int.reduceLT, Int.reduceLE, Int.reduceAdd, Int.reduceSub, Int.reduceToNat, reduceCtorEq, hlt, map_at hlt, Try.results30]); rfl) (fun hcd => ?_) (fun hcd => ?_) <;> (try (exact Bool.noConfusion hcd))) | (first | (refine goN_at 8 [0, 2, 3] [2] _ rfl ?_; (simp only [go_sem, ↓reduceIte, Nat.reduceBEq, Nat.reduceLT, Nat.reduceLeDiff, Nat.reduceAdd, Nat.reduceSub, Nat.reduceMul, Nat.reduceEqDiff, Int.reduceLT, Int.reduceLE, Int.reduceAdd, Int.reduceSub, Int.reduceToNat, reduceCtorEq])) | (refine goN_at 10 [2] [2] _ rfl ?_; (simp only [go_sem, ↓reduceIte, Nat.reduceBEq, Nat.reduceLT, Nat.reduceLeDiff, Nat.reduceAdd, Nat.reduceSub, Nat.reduceMul, Nat.reduceEqDiff, Int.reduceLT, Int.reduceLE, Int.reduceAdd, Int.reduceSub, Int.reduceToNat, reduceCtorEq])) | refine goN _ ?_) | (refine ⟨by (subst hO hA; kernel_rfl), ?_⟩) | fail)
      all_goals first
        | (rw [hin, firstF_at (r := ⟨3, k⟩) hlt (by rw [perAt_eq hlt]; (first | (simp [*]; done) | (simp_all []; done) | (simp_all []; omega))) hne])
        | (rw [hin, firstF_at (r := ⟨19, k⟩) hlt (by rw [perAt_eq hlt]; (first | (simp [*]; done) | (simp_all []; done) | (simp_all []; omega))) hne])
        | (refine ⟨k + 1, ⟨hlt, nn_succ hne (by rw [perAt_eq hlt]; (first | (simp [*]; done) | (simp_all []; done) | (simp_all []; omega)))⟩, by rw [wrap64 (by omega) (by omega)]; rfl, by omega⟩)
    · repeat' (first | (refine awp_seq_n fun N => ?_) | ((first | refine awp_reg ?_ | refine awp_draw' (by kernel_rfl) (by kernel_rfl) (fun O Al hO hA => ?_) | refine awp_exit ?_ | refine awp_skip ?_ | refine awp_ret ?_); (simp only [go_sem, ↓reduceIte, Nat.reduceBEq, Nat.reduceLT, Nat.reduceLeDiff, Nat.reduceAdd, Nat.reduceSub, Nat.reduceMul, Nat.reduceEqDiff, Int.reduceLT, Int.reduceLE, Int.reduceAdd, Int.reduceSub, Int.reduceToNat, reduceCtorEq, hlt, Try.results30])) | ((first | refine dGo_splitN (fun hif => ?_) (fun hif => ?_) | refine dGo_split (fun hif => ?_) (fun hif => ?_) | refine aGo_splitN (fun hif => ?_) (fun hif => ?_) | refine aGo_split (fun hif => ?_) (fun hif => ?_)) <;> (simp only [go_sem, ↓reduceIte, Nat.reduceBEq, Nat.reduceLT, Nat.reduceLeDiff, Nat.reduceAdd, Nat.reduceSub, Nat.reduceMul, Nat.reduceEqDiff, Int.reduceLT, Int.reduceLE, Int.reduceAdd, Int.reduceSub, Int.reduceToNat, reduceCtorEq, hif, hlt, Try.results30])) | (refine awp_block ?_) | (first | refine awp_condT (by (simp only [go_sem, ↓reduceIte, Nat.reduceBEq, Nat.reduceLT, Nat.reduceLeDiff, Nat.reduceAdd, Nat.reduceSub, Nat.reduceMul, Nat.reduceEqDiff, Int.reduceLT, Int.reduceLE, Int.reduceAdd, Int.reduceSub, Int.reduceToNat, reduceCtorEq, hlt, Try.results30]); rfl) (by first | rfl | assumption) ?_ | refine awp_condF (by (simp only [go_sem, ↓reduceIte, Nat.reduceBEq, Nat.reduceLT, Nat.reduceLeDiff, Nat.reduceAdd, Nat.reduceSub, Nat.reduceMul, Nat.reduceEqDiff, Int.reduceLT, Int.reduceLE, Int.reduceAdd, Int.reduceSub, Int.reduceToNat, reduceCtorEq, hlt, Try.results30]); rfl) (by first | rfl | assumption) ?_) | (refine awp_cond (by (simp only [go_sem, ↓reduceIte, Nat.reduceBEq, Nat.reduceLT, Nat.reduceLeDiff, Nat.reduceAdd, Nat.reduceSub, Nat.reduceMul, Nat.reduceEqDiff, Int.reduceLT, Int.reduceLE, Int.reduceAdd, Int.reduceSub, Int.reduceToNat, reduceCtorEq, hlt, Try.results30]); rfl) (fun hcd => ?_) (fun hcd => ?_) <;> (try (exact Bool.noConfusion hcd))) | (first | (refine goN_at 8 [0, 2, 3] [2] _ rfl ?_; (simp only [go_sem, ↓reduceIte, Nat.reduceBEq, Nat.reduceLT, Nat.reduceLeDiff, Nat.reduceAdd, Nat.reduceSub, Nat.reduceMul, Nat.reduceEqDiff, Int.reduceLT, Int.reduceLE, Int.reduceAdd, Int.reduceSub, Int.reduceToNat, reduceCtorEq])) | (refine goN_at 10 [2] [2] _ rfl ?_; (simp only [go_sem, ↓reduceIte, Nat.reduceBEq, Nat.reduceLT, Nat.reduceLeDiff, Nat.reduceAdd, Nat.reduceSub, Nat.reduceMul, Nat.reduceEqDiff, Int.reduceLT, Int.reduceLE, Int.reduceAdd, Int.reduceSub, Int.reduceToNat, reduceCtorEq])) | refine goN _ ?_) | (refine ⟨by (subst hO hA; kernel_rfl), ?_⟩) | fail)
      rw [hin, firstF_none (fun j hj => hne j (by omega))]
theorem check_c (l : List Period) (hb : l.length < 9223372036854775807) : PCalls Try.prog 57 [.list (l.map Period.d)] (.d (perF l).d) := by
  refine pcalls_of_awp Try.func57 rfl (by kernel_rfl) (by simp [Try.ntmps57]) ?_
  repeat' (first | (refine awp_seq_n fun N => ?_) | ((first | refine awp_reg ?_ | refine awp_exit ?_ | refine awp_skip ?_ | refine awp_ret ?_); (simp only [go_sem, ↓reduceIte, Nat.reduceBEq, Nat.reduceLT, Nat.reduceLeDiff, Nat.reduceAdd, Nat.reduceSub, Nat.reduceMul, Nat.reduceEqDiff, Int.reduceLT, Int.reduceLE, Int.reduceAdd, Int.reduceSub, Int.reduceToNat, reduceCtorEq, Try.ntmps57, Try.results57])) | ((first | refine aGo_splitN (fun hif => ?_) (fun hif => ?_) | refine aGo_split (fun hif => ?_) (fun hif => ?_)) <;> (simp only [go_sem, ↓reduceIte, Nat.reduceBEq, Nat.reduceLT, Nat.reduceLeDiff, Nat.reduceAdd, Nat.reduceSub, Nat.reduceMul, Nat.reduceEqDiff, Int.reduceLT, Int.reduceLE, Int.reduceAdd, Int.reduceSub, Int.reduceToNat, reduceCtorEq, hif, Try.ntmps57, Try.results57])) | (refine awp_block ?_) | (first | refine awp_condT (by (simp only [go_sem, ↓reduceIte, Nat.reduceBEq, Nat.reduceLT, Nat.reduceLeDiff, Nat.reduceAdd, Nat.reduceSub, Nat.reduceMul, Nat.reduceEqDiff, Int.reduceLT, Int.reduceLE, Int.reduceAdd, Int.reduceSub, Int.reduceToNat, reduceCtorEq, Try.ntmps57, Try.results57]); rfl) (by first | rfl | assumption) ?_ | refine awp_condF (by (simp only [go_sem, ↓reduceIte, Nat.reduceBEq, Nat.reduceLT, Nat.reduceLeDiff, Nat.reduceAdd, Nat.reduceSub, Nat.reduceMul, Nat.reduceEqDiff, Int.reduceLT, Int.reduceLE, Int.reduceAdd, Int.reduceSub, Int.reduceToNat, reduceCtorEq, Try.ntmps57, Try.results57]); rfl) (by first | rfl | assumption) ?_) | (refine awp_cond (by (simp only [go_sem, ↓reduceIte, Nat.reduceBEq, Nat.reduceLT, Nat.reduceLeDiff, Nat.reduceAdd, Nat.reduceSub, Nat.reduceMul, Nat.reduceEqDiff, Int.reduceLT, Int.reduceLE, Int.reduceAdd, Int.reduceSub, Int.reduceToNat, reduceCtorEq, Try.ntmps57, Try.results57]); rfl) (fun hcd => ?_) (fun hcd => ?_) <;> (try (exact Bool.noConfusion hcd))) | (refine goN _ ?_) | fail)
  · simp_all [perF]
  · have hin : perF l = firstF l.length (perAt l) ⟨0, 0⟩ := by
      unfold perF
      rw [if_neg (of_decide_eq_false (by assumption))]
    refine awp_loopU [2, 9, 10, 11] [2] (fun k : Nat => [(11, .d (.v (.int .i64 k)))]) (fun _ => []) (fun k => k ≤ l.length ∧ ∀ j, j < k → perAt l j = none) (fun k => l.length - k) 0 (by simp only [go_sem, ↓reduceIte, Nat.reduceBEq, Nat.reduceLT, Nat.reduceLeDiff, Nat.reduceAdd, Nat.reduceSub, Nat.reduceMul, Nat.reduceEqDiff, Int.reduceLT, Int.reduceLE, Int.reduceAdd, Int.reduceSub, Int.reduceToNat, reduceCtorEq]; rfl) (by simp only [go_sem, ↓reduceIte, Nat.reduceBEq, Nat.reduceLT, Nat.reduceLeDiff, Nat.reduceAdd, Nat.reduceSub, Nat.reduceMul, Nat.reduceEqDiff, Int.reduceLT, Int.reduceLE, Int.reduceAdd, Int.reduceSub, Int.reduceToNat, reduceCtorEq]; rfl) ⟨by simp, by simp⟩ ?_
    rintro k ⟨hk, hne⟩
    by_cases hlt : k < l.length
    · repeat' (first | (refine awp_seq_n fun N => ?_) | ((first | refine awp_reg ?_ | refine awp_exit ?_ | refine awp_skip ?_ | refine awp_ret ?_ | refine callOk_data (within_c ..) (by (simp only [go_sem, ↓reduceIte, Nat.reduceBEq, Nat.reduceLT, Nat.reduceLeDiff, Nat.reduceAdd, Nat.reduceSub, Nat.reduceMul, Nat.reduceEqDiff, Int.reduceLT, Int.reduceLE, Int.reduceAdd, Int.reduceSub, Int.reduceToNat, reduceCtorEq, hlt, map_at hlt, Try.results57]) <;> rfl) ?_); (simp only [go_sem, ↓reduceIte, Nat.reduceBEq, Nat.reduceLT, Nat.reduceLeDiff, Nat.reduceAdd, Nat.reduceSub, Nat.reduceMul, Nat.reduceEqDiff, Int.reduceLT, Int.reduceLE, Int.reduceAdd, Int.reduceSub, Int.reduceToNat, reduceCtorEq, hlt, map_at hlt, Try.results57])) | ((first | refine aGo_splitN (fun hif => ?_) (fun hif => ?_) | refine aGo_split (fun hif => ?_) (fun hif => ?_)) <;> (simp only [go_sem, ↓reduceIte, Nat.reduceBEq, Nat.reduceLT, Nat.reduceLeDiff, Nat.reduceAdd, Nat.reduceSub, Nat.reduceMul, Nat.reduceEqDiff, Int.reduceLT, Int.reduceLE, Int.reduceAdd, Int.reduceSub, Int.reduceToNat, reduceCtorEq, hif, hlt, map_at hlt, Try.results57])) | (refine awp_block ?_) | (first | refine awp_condT (by (simp only [go_sem, ↓reduceIte, Nat.reduceBEq, Nat.reduceLT, Nat.reduceLeDiff, Nat.reduceAdd, Nat.reduceSub, Nat.reduceMul, Nat.reduceEqDiff, Int.reduceLT, Int.reduceLE, Int.reduceAdd, Int.reduceSub, Int.reduceToNat, reduceCtorEq, hlt, map_at hlt, Try.results57]); rfl) (by first | rfl | assumption) ?_ | refine awp_condF (by (simp only [go_sem, ↓reduceIte, Nat.reduceBEq, Nat.reduceLT, Nat.reduceLeDiff, Nat.reduceAdd, Nat.reduceSub, Nat.reduceMul, Nat.reduceEqDiff, Int.reduceLT, Int.reduceLE, Int.reduceAdd, Int.reduceSub, Int.reduceToNat, reduceCtorEq, hlt, map_at hlt, Try.results57]); rfl) (by first | rfl | assumption) ?_) | (refine awp_cond (by (simp only [go_sem, ↓reduceIte, Nat.reduceBEq, Nat.reduceLT, Nat.reduceLeDiff, Nat.reduceAdd, Nat.reduceSub, Nat.reduceMul, Nat.reduceEqDiff, Int.reduceLT, Int.reduceLE, Int.reduceAdd, Int.reduceSub, Int.reduceToNat, reduceCtorEq, hlt, map_at hlt, Try.results57]); rfl) (fun hcd => ?_) (fun hcd => ?_) <;> (try (exact Bool.noConfusion hcd))) | (refine goN _ ?_) | fail)
      all_goals first
        | (rw [hin, firstF_at (r := ⟨3, k⟩) hlt (by rw [perAt_eq hlt]; (first | (simp [*]; done) | (simp_all []; done) | (simp_all []; omega))) hne])
        | (rw [hin, firstF_at (r := ⟨19, k⟩) hlt (by rw [perAt_eq hlt]; (first | (simp [*]; done) | (simp_all []; done) | (simp_all []; omega))) hne])
        | (refine ⟨k + 1, ⟨hlt, nn_succ hne (by rw [perAt_eq hlt]; (first | (simp [*]; done) | (simp_all []; done) | (simp_all []; omega)))⟩, by rw [wrap64 (by omega) (by omega)]; rfl, by omega⟩)
    · repeat' (first | (refine awp_seq_n fun N => ?_) | ((first | refine awp_reg ?_ | refine awp_exit ?_ | refine awp_skip ?_ | refine awp_ret ?_); (simp only [go_sem, ↓reduceIte, Nat.reduceBEq, Nat.reduceLT, Nat.reduceLeDiff, Nat.reduceAdd, Nat.reduceSub, Nat.reduceMul, Nat.reduceEqDiff, Int.reduceLT, Int.reduceLE, Int.reduceAdd, Int.reduceSub, Int.reduceToNat, reduceCtorEq, hlt, Try.results57])) | ((first | refine aGo_splitN (fun hif => ?_) (fun hif => ?_) | refine aGo_split (fun hif => ?_) (fun hif => ?_)) <;> (simp only [go_sem, ↓reduceIte, Nat.reduceBEq, Nat.reduceLT, Nat.reduceLeDiff, Nat.reduceAdd, Nat.reduceSub, Nat.reduceMul, Nat.reduceEqDiff, Int.reduceLT, Int.reduceLE, Int.reduceAdd, Int.reduceSub, Int.reduceToNat, reduceCtorEq, hif, hlt, Try.results57])) | (refine awp_block ?_) | (first | refine awp_condT (by (simp only [go_sem, ↓reduceIte, Nat.reduceBEq, Nat.reduceLT, Nat.reduceLeDiff, Nat.reduceAdd, Nat.reduceSub, Nat.reduceMul, Nat.reduceEqDiff, Int.reduceLT, Int.reduceLE, Int.reduceAdd, Int.reduceSub, Int.reduceToNat, reduceCtorEq, hlt, Try.results57]); rfl) (by first | rfl | assumption) ?_ | refine awp_condF (by (simp only [go_sem, ↓reduceIte, Nat.reduceBEq, Nat.reduceLT, Nat.reduceLeDiff, Nat.reduceAdd, Nat.reduceSub, Nat.reduceMul, Nat.reduceEqDiff, Int.reduceLT, Int.reduceLE, Int.reduceAdd, Int.reduceSub, Int.reduceToNat, reduceCtorEq, hlt, Try.results57]); rfl) (by first | rfl | assumption) ?_) | (refine awp_cond (by (simp only [go_sem, ↓reduceIte, Nat.reduceBEq, Nat.reduceLT, Nat.reduceLeDiff, Nat.reduceAdd, Nat.reduceSub, Nat.reduceMul, Nat.reduceEqDiff, Int.reduceLT, Int.reduceLE, Int.reduceAdd, Int.reduceSub, Int.reduceToNat, reduceCtorEq, hlt, Try.results57]); rfl) (fun hcd => ?_) (fun hcd => ?_) <;> (try (exact Bool.noConfusion hcd))) | (refine goN _ ?_) | fail)
      rw [hin, firstF_none (fun j hj => hne j (by omega))]
def spanF (f t : Int) : Fault := bif !inst f || !inst t then ⟨3, -2⟩ else bif decide (t < f) then ⟨19, -2⟩ else ⟨0, 0⟩
theorem span_c (f t : Int) : PCalls Try.prog 61 [.v (.int .i64 f), .v (.int .i64 t)] (.d (spanF f t).d) := by
  refine pcalls_of_awp Try.func61 rfl (by kernel_rfl) (by simp [Try.ntmps61]) ?_
  repeat' (first | (refine awp_seq_n fun N => ?_) | ((first | refine awp_reg ?_ | refine awp_skip ?_ | refine awp_ret ?_ | refine callOk_data (within_c ..) (by (simp only [go_sem, ↓reduceIte, Nat.reduceBEq, Nat.reduceLT, Nat.reduceLeDiff, Nat.reduceAdd, Nat.reduceSub, Nat.reduceMul, Nat.reduceEqDiff, Int.reduceLT, Int.reduceLE, Int.reduceAdd, Int.reduceSub, Int.reduceToNat, reduceCtorEq, Try.ntmps61, Try.results61]) <;> rfl) ?_); (simp only [go_sem, ↓reduceIte, Nat.reduceBEq, Nat.reduceLT, Nat.reduceLeDiff, Nat.reduceAdd, Nat.reduceSub, Nat.reduceMul, Nat.reduceEqDiff, Int.reduceLT, Int.reduceLE, Int.reduceAdd, Int.reduceSub, Int.reduceToNat, reduceCtorEq, Try.ntmps61, Try.results61])) | ((first | refine aGo_splitN (fun hif => ?_) (fun hif => ?_) | refine aGo_split (fun hif => ?_) (fun hif => ?_)) <;> (simp only [go_sem, ↓reduceIte, Nat.reduceBEq, Nat.reduceLT, Nat.reduceLeDiff, Nat.reduceAdd, Nat.reduceSub, Nat.reduceMul, Nat.reduceEqDiff, Int.reduceLT, Int.reduceLE, Int.reduceAdd, Int.reduceSub, Int.reduceToNat, reduceCtorEq, hif, Try.ntmps61, Try.results61])) | (first | refine awp_condT (by (simp only [go_sem, ↓reduceIte, Nat.reduceBEq, Nat.reduceLT, Nat.reduceLeDiff, Nat.reduceAdd, Nat.reduceSub, Nat.reduceMul, Nat.reduceEqDiff, Int.reduceLT, Int.reduceLE, Int.reduceAdd, Int.reduceSub, Int.reduceToNat, reduceCtorEq, Try.ntmps61, Try.results61]); rfl) (by first | rfl | assumption) ?_ | refine awp_condF (by (simp only [go_sem, ↓reduceIte, Nat.reduceBEq, Nat.reduceLT, Nat.reduceLeDiff, Nat.reduceAdd, Nat.reduceSub, Nat.reduceMul, Nat.reduceEqDiff, Int.reduceLT, Int.reduceLE, Int.reduceAdd, Int.reduceSub, Int.reduceToNat, reduceCtorEq, Try.ntmps61, Try.results61]); rfl) (by first | rfl | assumption) ?_) | (refine awp_cond (by (simp only [go_sem, ↓reduceIte, Nat.reduceBEq, Nat.reduceLT, Nat.reduceLeDiff, Nat.reduceAdd, Nat.reduceSub, Nat.reduceMul, Nat.reduceEqDiff, Int.reduceLT, Int.reduceLE, Int.reduceAdd, Int.reduceSub, Int.reduceToNat, reduceCtorEq, Try.ntmps61, Try.results61]); rfl) (fun hcd => ?_) (fun hcd => ?_) <;> (try (exact Bool.noConfusion hcd))) | (refine goN _ ?_) | fail)
  all_goals (first | (simp [spanF, *]; done) | (simp_all [spanF]; done) | (simp_all [spanF]; omega))
theorem spanFault_c (f t : Int) : PCalls Try.prog 35 [.v (.int .i64 f), .v (.int .i64 t)] (.d (spanF f t).d) := by
  refine pcalls_of_awp Try.func35 rfl (by kernel_rfl) (by simp [Try.ntmps35]) ?_
  repeat' (first | (refine awp_seq_n fun N => ?_) | ((first | refine awp_reg ?_ | refine awp_skip ?_ | refine awp_ret ?_ | refine callOk_data (instant_i ..) (by (simp only [go_sem, ↓reduceIte, Nat.reduceBEq, Nat.reduceLT, Nat.reduceLeDiff, Nat.reduceAdd, Nat.reduceSub, Nat.reduceMul, Nat.reduceEqDiff, Int.reduceLT, Int.reduceLE, Int.reduceAdd, Int.reduceSub, Int.reduceToNat, reduceCtorEq, Try.ntmps35, Try.results35]) <;> rfl) ?_ | refine callOk_data (at_c ..) (by (simp only [go_sem, ↓reduceIte, Nat.reduceBEq, Nat.reduceLT, Nat.reduceLeDiff, Nat.reduceAdd, Nat.reduceSub, Nat.reduceMul, Nat.reduceEqDiff, Int.reduceLT, Int.reduceLE, Int.reduceAdd, Int.reduceSub, Int.reduceToNat, reduceCtorEq, Try.ntmps35, Try.results35]) <;> rfl) ?_); (simp only [go_sem, ↓reduceIte, Nat.reduceBEq, Nat.reduceLT, Nat.reduceLeDiff, Nat.reduceAdd, Nat.reduceSub, Nat.reduceMul, Nat.reduceEqDiff, Int.reduceLT, Int.reduceLE, Int.reduceAdd, Int.reduceSub, Int.reduceToNat, reduceCtorEq, Try.ntmps35, Try.results35])) | ((first | refine aGo_splitN (fun hif => ?_) (fun hif => ?_) | refine aGo_split (fun hif => ?_) (fun hif => ?_)) <;> (simp only [go_sem, ↓reduceIte, Nat.reduceBEq, Nat.reduceLT, Nat.reduceLeDiff, Nat.reduceAdd, Nat.reduceSub, Nat.reduceMul, Nat.reduceEqDiff, Int.reduceLT, Int.reduceLE, Int.reduceAdd, Int.reduceSub, Int.reduceToNat, reduceCtorEq, hif, Try.ntmps35, Try.results35])) | (first | refine awp_condT (by (simp only [go_sem, ↓reduceIte, Nat.reduceBEq, Nat.reduceLT, Nat.reduceLeDiff, Nat.reduceAdd, Nat.reduceSub, Nat.reduceMul, Nat.reduceEqDiff, Int.reduceLT, Int.reduceLE, Int.reduceAdd, Int.reduceSub, Int.reduceToNat, reduceCtorEq, Try.ntmps35, Try.results35]); rfl) (by first | rfl | assumption) ?_ | refine awp_condF (by (simp only [go_sem, ↓reduceIte, Nat.reduceBEq, Nat.reduceLT, Nat.reduceLeDiff, Nat.reduceAdd, Nat.reduceSub, Nat.reduceMul, Nat.reduceEqDiff, Int.reduceLT, Int.reduceLE, Int.reduceAdd, Int.reduceSub, Int.reduceToNat, reduceCtorEq, Try.ntmps35, Try.results35]); rfl) (by first | rfl | assumption) ?_) | (refine awp_cond (by (simp only [go_sem, ↓reduceIte, Nat.reduceBEq, Nat.reduceLT, Nat.reduceLeDiff, Nat.reduceAdd, Nat.reduceSub, Nat.reduceMul, Nat.reduceEqDiff, Int.reduceLT, Int.reduceLE, Int.reduceAdd, Int.reduceSub, Int.reduceToNat, reduceCtorEq, Try.ntmps35, Try.results35]); rfl) (fun hcd => ?_) (fun hcd => ?_) <;> (try (exact Bool.noConfusion hcd))) | (refine goN _ ?_) | fail)
  all_goals (first | (simp [spanF, *]; done) | (simp_all [spanF]; done) | (simp_all [spanF]; omega))
theorem per_ext {x y : Period} (h : (ieq x.From y.From && ieq x.To y.To) = true) : x = y := by
  simp only [Bool.and_eq_true, ieq, decide_eq_true_eq] at h
  obtain ⟨a, b⟩ := x
  obtain ⟨c, d⟩ := y
  simp_all
theorem samePeriods_c (a b : List Period) (hb : a.length < 9223372036854775807) : PCalls Try.prog 32 [.list (a.map Period.d), .list (b.map Period.d)] (.d (.v (.bool (decide (a = b))))) := by
  refine pcalls_of_awp Try.func32 rfl (by kernel_rfl) (by simp [Try.ntmps32]) ?_
  repeat' (first | (refine awp_seq_n fun N => ?_) | ((first | refine awp_reg ?_ | refine awp_draw' (by kernel_rfl) (by kernel_rfl) (fun O Al hO hA => ?_) | refine awp_exit ?_ | refine awp_skip ?_ | refine awp_ret ?_); (simp only [go_sem, ↓reduceIte, Nat.reduceBEq, Nat.reduceLT, Nat.reduceLeDiff, Nat.reduceAdd, Nat.reduceSub, Nat.reduceMul, Nat.reduceEqDiff, Int.reduceLT, Int.reduceLE, Int.reduceAdd, Int.reduceSub, Int.reduceToNat, reduceCtorEq, Try.ntmps32, Try.results32])) | (refine awp_block ?_) | (first | refine awp_condT (by (simp only [go_sem, ↓reduceIte, Nat.reduceBEq, Nat.reduceLT, Nat.reduceLeDiff, Nat.reduceAdd, Nat.reduceSub, Nat.reduceMul, Nat.reduceEqDiff, Int.reduceLT, Int.reduceLE, Int.reduceAdd, Int.reduceSub, Int.reduceToNat, reduceCtorEq, Try.ntmps32, Try.results32]); rfl) (by first | rfl | assumption) ?_ | refine awp_condF (by (simp only [go_sem, ↓reduceIte, Nat.reduceBEq, Nat.reduceLT, Nat.reduceLeDiff, Nat.reduceAdd, Nat.reduceSub, Nat.reduceMul, Nat.reduceEqDiff, Int.reduceLT, Int.reduceLE, Int.reduceAdd, Int.reduceSub, Int.reduceToNat, reduceCtorEq, Try.ntmps32, Try.results32]); rfl) (by first | rfl | assumption) ?_) | (refine awp_cond (by (simp only [go_sem, ↓reduceIte, Nat.reduceBEq, Nat.reduceLT, Nat.reduceLeDiff, Nat.reduceAdd, Nat.reduceSub, Nat.reduceMul, Nat.reduceEqDiff, Int.reduceLT, Int.reduceLE, Int.reduceAdd, Int.reduceSub, Int.reduceToNat, reduceCtorEq, Try.ntmps32, Try.results32]); rfl) (fun hcd => ?_) (fun hcd => ?_) <;> (try (exact Bool.noConfusion hcd))) | (refine goN _ ?_) | (refine ⟨by (subst hO hA; kernel_rfl), ?_⟩) | fail)
  · have : a ≠ b := by rintro rfl; simp_all [ieq_self]
    simp [this]
  · have hlen : a.length = b.length := by
      simp [ieq] at hcd
      omega
    refine awp_loopU [0, 1, 4, 5] [] (fun k : Nat => [(5, .d (.v (.int .i64 k)))]) (fun _ => []) (fun k => k ≤ a.length ∧ ∀ j, ∀ h : j < a.length, ∀ h' : j < b.length, j < k → a[j] = b[j]) (fun k => a.length - k) 0 (by simp only [go_sem, ↓reduceIte, Nat.reduceBEq, Nat.reduceLT, Nat.reduceLeDiff, Nat.reduceAdd, Nat.reduceSub, Nat.reduceMul, Nat.reduceEqDiff, Int.reduceLT, Int.reduceLE, Int.reduceAdd, Int.reduceSub, Int.reduceToNat, reduceCtorEq]; rfl) (by simp only [go_sem, ↓reduceIte, Nat.reduceBEq, Nat.reduceLT, Nat.reduceLeDiff, Nat.reduceAdd, Nat.reduceSub, Nat.reduceMul, Nat.reduceEqDiff, Int.reduceLT, Int.reduceLE, Int.reduceAdd, Int.reduceSub, Int.reduceToNat, reduceCtorEq]; rfl) ⟨by simp, by simp⟩ ?_
    rintro k ⟨hk, hne⟩
    by_cases hlt : k < a.length
    · have hlt' : k < b.length := by omega
      repeat' (first | (refine awp_seq_n fun N => ?_) | ((first | refine awp_reg ?_ | refine awp_draw' (by kernel_rfl) (by kernel_rfl) (fun O Al hO hA => ?_) | refine awp_exit ?_ | refine awp_skip ?_ | refine awp_ret ?_); (simp only [go_sem, ↓reduceIte, Nat.reduceBEq, Nat.reduceLT, Nat.reduceLeDiff, Nat.reduceAdd, Nat.reduceSub, Nat.reduceMul, Nat.reduceEqDiff, Int.reduceLT, Int.reduceLE, Int.reduceAdd, Int.reduceSub, Int.reduceToNat, reduceCtorEq, hlt, hlt', map_at hlt, map_at hlt', Try.results32])) | (refine awp_block ?_) | (first | refine awp_condT (by (simp only [go_sem, ↓reduceIte, Nat.reduceBEq, Nat.reduceLT, Nat.reduceLeDiff, Nat.reduceAdd, Nat.reduceSub, Nat.reduceMul, Nat.reduceEqDiff, Int.reduceLT, Int.reduceLE, Int.reduceAdd, Int.reduceSub, Int.reduceToNat, reduceCtorEq, hlt, hlt', map_at hlt, map_at hlt', Try.results32]); rfl) (by first | rfl | assumption) ?_ | refine awp_condF (by (simp only [go_sem, ↓reduceIte, Nat.reduceBEq, Nat.reduceLT, Nat.reduceLeDiff, Nat.reduceAdd, Nat.reduceSub, Nat.reduceMul, Nat.reduceEqDiff, Int.reduceLT, Int.reduceLE, Int.reduceAdd, Int.reduceSub, Int.reduceToNat, reduceCtorEq, hlt, hlt', map_at hlt, map_at hlt', Try.results32]); rfl) (by first | rfl | assumption) ?_) | (refine awp_cond (by (simp only [go_sem, ↓reduceIte, Nat.reduceBEq, Nat.reduceLT, Nat.reduceLeDiff, Nat.reduceAdd, Nat.reduceSub, Nat.reduceMul, Nat.reduceEqDiff, Int.reduceLT, Int.reduceLE, Int.reduceAdd, Int.reduceSub, Int.reduceToNat, reduceCtorEq, hlt, hlt', map_at hlt, map_at hlt', Try.results32]); rfl) (fun hcd => ?_) (fun hcd => ?_) <;> (try (exact Bool.noConfusion hcd))) | (refine goN _ ?_) | (refine ⟨by (subst hO hA; kernel_rfl), ?_⟩) | fail)
      · have : a ≠ b := by rintro rfl; simp_all [ieq_self]
        simp [this]
      · refine ⟨k + 1, ⟨hlt, fun j h h' hj => ?_⟩, by rw [wrap64 (by omega) (by omega)]; rfl, by omega⟩
        rcases Nat.lt_or_ge j k with g | g
        · exact hne j h h' g
        · obtain rfl : j = k := by omega
          exact per_ext (by simpa using hcd)
    · repeat' (first | (refine awp_seq_n fun N => ?_) | ((first | refine awp_reg ?_ | refine awp_draw' (by kernel_rfl) (by kernel_rfl) (fun O Al hO hA => ?_) | refine awp_exit ?_ | refine awp_skip ?_ | refine awp_ret ?_); (simp only [go_sem, ↓reduceIte, Nat.reduceBEq, Nat.reduceLT, Nat.reduceLeDiff, Nat.reduceAdd, Nat.reduceSub, Nat.reduceMul, Nat.reduceEqDiff, Int.reduceLT, Int.reduceLE, Int.reduceAdd, Int.reduceSub, Int.reduceToNat, reduceCtorEq, hlt, Try.results32])) | (refine awp_block ?_) | (first | refine awp_condT (by (simp only [go_sem, ↓reduceIte, Nat.reduceBEq, Nat.reduceLT, Nat.reduceLeDiff, Nat.reduceAdd, Nat.reduceSub, Nat.reduceMul, Nat.reduceEqDiff, Int.reduceLT, Int.reduceLE, Int.reduceAdd, Int.reduceSub, Int.reduceToNat, reduceCtorEq, hlt, Try.results32]); rfl) (by first | rfl | assumption) ?_ | refine awp_condF (by (simp only [go_sem, ↓reduceIte, Nat.reduceBEq, Nat.reduceLT, Nat.reduceLeDiff, Nat.reduceAdd, Nat.reduceSub, Nat.reduceMul, Nat.reduceEqDiff, Int.reduceLT, Int.reduceLE, Int.reduceAdd, Int.reduceSub, Int.reduceToNat, reduceCtorEq, hlt, Try.results32]); rfl) (by first | rfl | assumption) ?_) | (refine awp_cond (by (simp only [go_sem, ↓reduceIte, Nat.reduceBEq, Nat.reduceLT, Nat.reduceLeDiff, Nat.reduceAdd, Nat.reduceSub, Nat.reduceMul, Nat.reduceEqDiff, Int.reduceLT, Int.reduceLE, Int.reduceAdd, Int.reduceSub, Int.reduceToNat, reduceCtorEq, hlt, Try.results32]); rfl) (fun hcd => ?_) (fun hcd => ?_) <;> (try (exact Bool.noConfusion hcd))) | (refine goN _ ?_) | (refine ⟨by (subst hO hA; kernel_rfl), ?_⟩) | fail)
      have : a = b := List.ext_getElem hlen fun j h h' => hne j h h' (by omega)
      simp [this]
end Go.Fw
/- Freebusy: long periods, busy instants. -/
set_option linter.unusedSimpArgs false
set_option linter.unusedVariables false
set_option maxRecDepth 20000
set_option maxHeartbeats 4000000
namespace Go.Fw
open Go Go.Proofs Go.Proofs.Ytpgnhajindbhlaa.Ty
def isBusy (l : List Period) (t : Int) : Bool := l.any fun p => decide (p.From ≤ t) && decide (t < p.To)
def busyAt (l : List Period) (t : Int) (i : Nat) : Option Bool := match l[i]? with | none => none | some p => bif decide (p.From ≤ t) && decide (t < p.To) then some true else none
theorem busyAt_eq {l : List Period} {t : Int} {k : Nat} (h : k < l.length) : busyAt l t k = bif decide (l[k].From ≤ t) && decide (t < l[k].To) then some true else none := by simp [busyAt, h]
theorem isBusy_at {l : List Period} {t : Int} {k : Nat} (h : k < l.length) (hb : (decide (l[k].From ≤ t) && decide (t < l[k].To)) = true) : isBusy l t = true := by
  unfold isBusy
  rw [List.any_eq_true]
  exact ⟨_, List.getElem_mem h, hb⟩
theorem isBusy_none {l : List Period} {t : Int} (h : ∀ j, j < l.length → busyAt l t j = none) : isBusy l t = false := by
  unfold isBusy
  rw [List.any_eq_false]
  intro x hx
  obtain ⟨j, hj, rfl⟩ := List.getElem_of_mem hx
  have := h j hj
  rw [busyAt_eq hj] at this
  intro e
  rw [e] at this
  cases this
theorem busy_c (l : List Period) (t : Int) (hb : l.length < 9223372036854775807) : PCalls Try.prog 60 [.list (l.map Period.d), .v (.int .i64 t)] (.d (.v (.bool (isBusy l t)))) := by
  refine pcalls_of_awp Try.func60 rfl (by kernel_rfl) (by simp [Try.ntmps60]) ?_
  repeat' (first | (refine awp_seq_n fun N => ?_) | ((first | refine awp_reg ?_ | refine awp_exit ?_ | refine awp_skip ?_ | refine awp_ret ?_); (simp only [go_sem, ↓reduceIte, Nat.reduceBEq, Nat.reduceLT, Nat.reduceLeDiff, Nat.reduceAdd, Nat.reduceSub, Nat.reduceMul, Nat.reduceEqDiff, Int.reduceLT, Int.reduceLE, Int.reduceAdd, Int.reduceSub, Int.reduceToNat, reduceCtorEq, Try.ntmps60, Try.results60])) | ((first | refine aGo_splitN (fun hif => ?_) (fun hif => ?_) | refine aGo_split (fun hif => ?_) (fun hif => ?_)) <;> (simp only [go_sem, ↓reduceIte, Nat.reduceBEq, Nat.reduceLT, Nat.reduceLeDiff, Nat.reduceAdd, Nat.reduceSub, Nat.reduceMul, Nat.reduceEqDiff, Int.reduceLT, Int.reduceLE, Int.reduceAdd, Int.reduceSub, Int.reduceToNat, reduceCtorEq, hif, Try.ntmps60, Try.results60])) | (refine awp_block ?_) | (first | refine awp_condT (by (simp only [go_sem, ↓reduceIte, Nat.reduceBEq, Nat.reduceLT, Nat.reduceLeDiff, Nat.reduceAdd, Nat.reduceSub, Nat.reduceMul, Nat.reduceEqDiff, Int.reduceLT, Int.reduceLE, Int.reduceAdd, Int.reduceSub, Int.reduceToNat, reduceCtorEq, Try.ntmps60, Try.results60]); rfl) (by first | rfl | assumption) ?_ | refine awp_condF (by (simp only [go_sem, ↓reduceIte, Nat.reduceBEq, Nat.reduceLT, Nat.reduceLeDiff, Nat.reduceAdd, Nat.reduceSub, Nat.reduceMul, Nat.reduceEqDiff, Int.reduceLT, Int.reduceLE, Int.reduceAdd, Int.reduceSub, Int.reduceToNat, reduceCtorEq, Try.ntmps60, Try.results60]); rfl) (by first | rfl | assumption) ?_) | (refine awp_cond (by (simp only [go_sem, ↓reduceIte, Nat.reduceBEq, Nat.reduceLT, Nat.reduceLeDiff, Nat.reduceAdd, Nat.reduceSub, Nat.reduceMul, Nat.reduceEqDiff, Int.reduceLT, Int.reduceLE, Int.reduceAdd, Int.reduceSub, Int.reduceToNat, reduceCtorEq, Try.ntmps60, Try.results60]); rfl) (fun hcd => ?_) (fun hcd => ?_) <;> (try (exact Bool.noConfusion hcd))) | (refine goN _ ?_) | fail)
  refine awp_loopU [0, 1, 4, 5] [] (fun k : Nat => [(5, .d (.v (.int .i64 k)))]) (fun _ => []) (fun k => k ≤ l.length ∧ ∀ j, j < k → busyAt l t j = none) (fun k => l.length - k) 0 (by simp only [go_sem, ↓reduceIte, Nat.reduceBEq, Nat.reduceLT, Nat.reduceLeDiff, Nat.reduceAdd, Nat.reduceSub, Nat.reduceMul, Nat.reduceEqDiff, Int.reduceLT, Int.reduceLE, Int.reduceAdd, Int.reduceSub, Int.reduceToNat, reduceCtorEq]; rfl) (by simp only [go_sem, ↓reduceIte, Nat.reduceBEq, Nat.reduceLT, Nat.reduceLeDiff, Nat.reduceAdd, Nat.reduceSub, Nat.reduceMul, Nat.reduceEqDiff, Int.reduceLT, Int.reduceLE, Int.reduceAdd, Int.reduceSub, Int.reduceToNat, reduceCtorEq]; rfl) ⟨by simp, by simp⟩ ?_
  rintro k ⟨hk, hne⟩
  by_cases hlt : k < l.length
  · repeat' (first | (refine awp_seq_n fun N => ?_) | ((first | refine awp_reg ?_ | refine awp_exit ?_ | refine awp_skip ?_ | refine awp_ret ?_); (simp only [go_sem, ↓reduceIte, Nat.reduceBEq, Nat.reduceLT, Nat.reduceLeDiff, Nat.reduceAdd, Nat.reduceSub, Nat.reduceMul, Nat.reduceEqDiff, Int.reduceLT, Int.reduceLE, Int.reduceAdd, Int.reduceSub, Int.reduceToNat, reduceCtorEq, hlt, map_at hlt, Try.results60])) | ((first | refine aGo_splitN (fun hif => ?_) (fun hif => ?_) | refine aGo_split (fun hif => ?_) (fun hif => ?_)) <;> (simp only [go_sem, ↓reduceIte, Nat.reduceBEq, Nat.reduceLT, Nat.reduceLeDiff, Nat.reduceAdd, Nat.reduceSub, Nat.reduceMul, Nat.reduceEqDiff, Int.reduceLT, Int.reduceLE, Int.reduceAdd, Int.reduceSub, Int.reduceToNat, reduceCtorEq, hif, hlt, map_at hlt, Try.results60])) | (refine awp_block ?_) | (first | refine awp_condT (by (simp only [go_sem, ↓reduceIte, Nat.reduceBEq, Nat.reduceLT, Nat.reduceLeDiff, Nat.reduceAdd, Nat.reduceSub, Nat.reduceMul, Nat.reduceEqDiff, Int.reduceLT, Int.reduceLE, Int.reduceAdd, Int.reduceSub, Int.reduceToNat, reduceCtorEq, hlt, map_at hlt, Try.results60]); rfl) (by first | rfl | assumption) ?_ | refine awp_condF (by (simp only [go_sem, ↓reduceIte, Nat.reduceBEq, Nat.reduceLT, Nat.reduceLeDiff, Nat.reduceAdd, Nat.reduceSub, Nat.reduceMul, Nat.reduceEqDiff, Int.reduceLT, Int.reduceLE, Int.reduceAdd, Int.reduceSub, Int.reduceToNat, reduceCtorEq, hlt, map_at hlt, Try.results60]); rfl) (by first | rfl | assumption) ?_) | (refine awp_cond (by (simp only [go_sem, ↓reduceIte, Nat.reduceBEq, Nat.reduceLT, Nat.reduceLeDiff, Nat.reduceAdd, Nat.reduceSub, Nat.reduceMul, Nat.reduceEqDiff, Int.reduceLT, Int.reduceLE, Int.reduceAdd, Int.reduceSub, Int.reduceToNat, reduceCtorEq, hlt, map_at hlt, Try.results60]); rfl) (fun hcd => ?_) (fun hcd => ?_) <;> (try (exact Bool.noConfusion hcd))) | (refine goN _ ?_) | fail)
    all_goals first
      | (rw [isBusy_at hlt (by simp [*])])
      | (refine ⟨k + 1, ⟨hlt, nn_succ hne (by rw [busyAt_eq hlt]; simp [*])⟩, by rw [wrap64 (by omega) (by omega)]; rfl, by omega⟩)
  · repeat' (first | (refine awp_seq_n fun N => ?_) | ((first | refine awp_reg ?_ | refine awp_exit ?_ | refine awp_skip ?_ | refine awp_ret ?_); (simp only [go_sem, ↓reduceIte, Nat.reduceBEq, Nat.reduceLT, Nat.reduceLeDiff, Nat.reduceAdd, Nat.reduceSub, Nat.reduceMul, Nat.reduceEqDiff, Int.reduceLT, Int.reduceLE, Int.reduceAdd, Int.reduceSub, Int.reduceToNat, reduceCtorEq, hlt, Try.results60])) | ((first | refine aGo_splitN (fun hif => ?_) (fun hif => ?_) | refine aGo_split (fun hif => ?_) (fun hif => ?_)) <;> (simp only [go_sem, ↓reduceIte, Nat.reduceBEq, Nat.reduceLT, Nat.reduceLeDiff, Nat.reduceAdd, Nat.reduceSub, Nat.reduceMul, Nat.reduceEqDiff, Int.reduceLT, Int.reduceLE, Int.reduceAdd, Int.reduceSub, Int.reduceToNat, reduceCtorEq, hif, hlt, Try.results60])) | (refine awp_block ?_) | (first | refine awp_condT (by (simp only [go_sem, ↓reduceIte, Nat.reduceBEq, Nat.reduceLT, Nat.reduceLeDiff, Nat.reduceAdd, Nat.reduceSub, Nat.reduceMul, Nat.reduceEqDiff, Int.reduceLT, Int.reduceLE, Int.reduceAdd, Int.reduceSub, Int.reduceToNat, reduceCtorEq, hlt, Try.results60]); rfl) (by first | rfl | assumption) ?_ | refine awp_condF (by (simp only [go_sem, ↓reduceIte, Nat.reduceBEq, Nat.reduceLT, Nat.reduceLeDiff, Nat.reduceAdd, Nat.reduceSub, Nat.reduceMul, Nat.reduceEqDiff, Int.reduceLT, Int.reduceLE, Int.reduceAdd, Int.reduceSub, Int.reduceToNat, reduceCtorEq, hlt, Try.results60]); rfl) (by first | rfl | assumption) ?_) | (refine awp_cond (by (simp only [go_sem, ↓reduceIte, Nat.reduceBEq, Nat.reduceLT, Nat.reduceLeDiff, Nat.reduceAdd, Nat.reduceSub, Nat.reduceMul, Nat.reduceEqDiff, Int.reduceLT, Int.reduceLE, Int.reduceAdd, Int.reduceSub, Int.reduceToNat, reduceCtorEq, hlt, Try.results60]); rfl) (fun hcd => ?_) (fun hcd => ?_) <;> (try (exact Bool.noConfusion hcd))) | (refine goN _ ?_) | fail)
    rw [isBusy_none (fun j hj => hne j (by omega))]
def longF (l : List Period) (n : Int) : List Period := l.filter fun p => decide (n ≤ p.To - p.From)
theorem longF_succ {l : List Period} {n : Int} {k : Nat} (h : k < l.length) : longF (l.take (k + 1)) n = longF (l.take k) n ++ (if decide (n ≤ l[k].To - l[k].From) = true then [l[k]] else []) := by
  rw [take_succ h]
  unfold longF
  rw [List.filter_append]
  congr 1
  cases c : decide (n ≤ l[k].To - l[k].From) <;> simp [c]
theorem longF_le (l : List Period) (n : Int) : (longF l n).length ≤ l.length := List.length_filter_le _ _
theorem long_c (l : List Period) (n : Int) (hb : l.length * 16 ≤ 140737488355328) (hw : ∀ p ∈ l, IntKind.i64.wrap (p.To - p.From) = p.To - p.From) : PCalls Try.prog 36 [.list (l.map Period.d), .v (.int .i64 n)] (.d (.list ((longF l n).map Period.d))) := by
  refine pcalls_of_awp Try.func36 rfl (by kernel_rfl) (by simp [Try.ntmps36]) ?_
  repeat' (first | (refine awp_seq_n fun N => ?_) | ((first | refine awp_reg ?_ | refine awp_draw' (by kernel_rfl) (by kernel_rfl) (fun O Al hO hA => ?_) | refine awp_exit ?_ | refine awp_skip ?_ | refine awp_ret ?_); (simp only [go_sem, ↓reduceIte, Nat.reduceBEq, Nat.reduceLT, Nat.reduceLeDiff, Nat.reduceAdd, Nat.reduceSub, Nat.reduceMul, Nat.reduceEqDiff, Int.reduceLT, Int.reduceLE, Int.reduceAdd, Int.reduceSub, Int.reduceToNat, reduceCtorEq, Try.ntmps36, Try.results36])) | (refine awp_block ?_) | (first | refine awp_condT (by (simp only [go_sem, ↓reduceIte, Nat.reduceBEq, Nat.reduceLT, Nat.reduceLeDiff, Nat.reduceAdd, Nat.reduceSub, Nat.reduceMul, Nat.reduceEqDiff, Int.reduceLT, Int.reduceLE, Int.reduceAdd, Int.reduceSub, Int.reduceToNat, reduceCtorEq, Try.ntmps36, Try.results36]); rfl) (by first | rfl | assumption) ?_ | refine awp_condF (by (simp only [go_sem, ↓reduceIte, Nat.reduceBEq, Nat.reduceLT, Nat.reduceLeDiff, Nat.reduceAdd, Nat.reduceSub, Nat.reduceMul, Nat.reduceEqDiff, Int.reduceLT, Int.reduceLE, Int.reduceAdd, Int.reduceSub, Int.reduceToNat, reduceCtorEq, Try.ntmps36, Try.results36]); rfl) (by first | rfl | assumption) ?_) | (refine awp_cond (by (simp only [go_sem, ↓reduceIte, Nat.reduceBEq, Nat.reduceLT, Nat.reduceLeDiff, Nat.reduceAdd, Nat.reduceSub, Nat.reduceMul, Nat.reduceEqDiff, Int.reduceLT, Int.reduceLE, Int.reduceAdd, Int.reduceSub, Int.reduceToNat, reduceCtorEq, Try.ntmps36, Try.results36]); rfl) (fun hcd => ?_) (fun hcd => ?_) <;> (try (exact Bool.noConfusion hcd))) | (refine goN _ ?_) | (refine ⟨by (subst hO hA; kernel_rfl), ?_⟩) | fail)
  refine awp_loopU [0, 1, 4, 5, 6] [4, 5] (fun k : Nat => [(6, .d (.v (.int .i64 k))), (5, .ref 0 5 (longF (l.take k) n).length)]) (fun k => [(5, .arr 2 ((longF (l.take k) n).map Period.d))]) (fun k => k ≤ l.length) (fun k => l.length - k) 0 (by simp only [go_sem, ↓reduceIte, Nat.reduceBEq, Nat.reduceLT, Nat.reduceLeDiff, Nat.reduceAdd, Nat.reduceSub, Nat.reduceMul, Nat.reduceEqDiff, Int.reduceLT, Int.reduceLE, Int.reduceAdd, Int.reduceSub, Int.reduceToNat, reduceCtorEq]; rfl) (by simp only [go_sem, ↓reduceIte, Nat.reduceBEq, Nat.reduceLT, Nat.reduceLeDiff, Nat.reduceAdd, Nat.reduceSub, Nat.reduceMul, Nat.reduceEqDiff, Int.reduceLT, Int.reduceLE, Int.reduceAdd, Int.reduceSub, Int.reduceToNat, reduceCtorEq]; rfl) (by simp) ?_
  intro k hk
  have hol := longF_le (l.take k) n
  rw [len_take hk] at hol
  by_cases hlt : k < l.length
  · have hs := longF_succ (n := n) hlt
    have hwk := hw _ (List.getElem_mem hlt)
    have h16 : ((longF (l.take k) n).length + 1) * 16 ≤ 140737488355328 := by omega
    have h63 : (longF (l.take k) n).length ≤ 9223372036854775806 := by omega
    repeat' (first | (refine awp_seq_n fun N => ?_) | ((first | refine awp_reg ?_ | refine awp_draw' (by kernel_rfl) (by kernel_rfl) (fun O Al hO hA => ?_) | refine awp_exit ?_ | refine awp_skip ?_ | refine awp_ret ?_); (simp only [go_sem, ↓reduceIte, Nat.reduceBEq, Nat.reduceLT, Nat.reduceLeDiff, Nat.reduceAdd, Nat.reduceSub, Nat.reduceMul, Nat.reduceEqDiff, Int.reduceLT, Int.reduceLE, Int.reduceAdd, Int.reduceSub, Int.reduceToNat, reduceCtorEq, hlt, hwk, h16, h63, map_at hlt, Try.results36])) | (refine awp_block ?_) | (first | refine awp_condT (by (simp only [go_sem, ↓reduceIte, Nat.reduceBEq, Nat.reduceLT, Nat.reduceLeDiff, Nat.reduceAdd, Nat.reduceSub, Nat.reduceMul, Nat.reduceEqDiff, Int.reduceLT, Int.reduceLE, Int.reduceAdd, Int.reduceSub, Int.reduceToNat, reduceCtorEq, hlt, hwk, h16, h63, map_at hlt, Try.results36]); rfl) (by first | rfl | assumption) ?_ | refine awp_condF (by (simp only [go_sem, ↓reduceIte, Nat.reduceBEq, Nat.reduceLT, Nat.reduceLeDiff, Nat.reduceAdd, Nat.reduceSub, Nat.reduceMul, Nat.reduceEqDiff, Int.reduceLT, Int.reduceLE, Int.reduceAdd, Int.reduceSub, Int.reduceToNat, reduceCtorEq, hlt, hwk, h16, h63, map_at hlt, Try.results36]); rfl) (by first | rfl | assumption) ?_) | (refine awp_cond (by (simp only [go_sem, ↓reduceIte, Nat.reduceBEq, Nat.reduceLT, Nat.reduceLeDiff, Nat.reduceAdd, Nat.reduceSub, Nat.reduceMul, Nat.reduceEqDiff, Int.reduceLT, Int.reduceLE, Int.reduceAdd, Int.reduceSub, Int.reduceToNat, reduceCtorEq, hlt, hwk, h16, h63, map_at hlt, Try.results36]); rfl) (fun hcd => ?_) (fun hcd => ?_) <;> (try (exact Bool.noConfusion hcd))) | (refine goN _ ?_) | (refine ⟨by (subst hO hA; kernel_rfl), ?_⟩) | fail)
    · exact ⟨k + 1, hlt, by rw [wrap64 (by omega) (by omega), hs, if_pos (by assumption), List.map_append, List.length_append]; rfl, by omega⟩
    · exact ⟨k + 1, hlt, by rw [wrap64 (by omega) (by omega), hs, if_neg (by simp [*]), List.append_nil]; rfl, by omega⟩
  · obtain rfl : k = l.length := by omega
    repeat' (first | (refine awp_seq_n fun N => ?_) | ((first | refine awp_reg ?_ | refine awp_draw' (by kernel_rfl) (by kernel_rfl) (fun O Al hO hA => ?_) | refine awp_exit ?_ | refine awp_skip ?_ | refine awp_ret ?_); (simp only [go_sem, ↓reduceIte, Nat.reduceBEq, Nat.reduceLT, Nat.reduceLeDiff, Nat.reduceAdd, Nat.reduceSub, Nat.reduceMul, Nat.reduceEqDiff, Int.reduceLT, Int.reduceLE, Int.reduceAdd, Int.reduceSub, Int.reduceToNat, reduceCtorEq, hlt, List.take_length, Try.results36])) | (refine awp_block ?_) | (first | refine awp_condT (by (simp only [go_sem, ↓reduceIte, Nat.reduceBEq, Nat.reduceLT, Nat.reduceLeDiff, Nat.reduceAdd, Nat.reduceSub, Nat.reduceMul, Nat.reduceEqDiff, Int.reduceLT, Int.reduceLE, Int.reduceAdd, Int.reduceSub, Int.reduceToNat, reduceCtorEq, hlt, List.take_length, Try.results36]); rfl) (by first | rfl | assumption) ?_ | refine awp_condF (by (simp only [go_sem, ↓reduceIte, Nat.reduceBEq, Nat.reduceLT, Nat.reduceLeDiff, Nat.reduceAdd, Nat.reduceSub, Nat.reduceMul, Nat.reduceEqDiff, Int.reduceLT, Int.reduceLE, Int.reduceAdd, Int.reduceSub, Int.reduceToNat, reduceCtorEq, hlt, List.take_length, Try.results36]); rfl) (by first | rfl | assumption) ?_) | (refine awp_cond (by (simp only [go_sem, ↓reduceIte, Nat.reduceBEq, Nat.reduceLT, Nat.reduceLeDiff, Nat.reduceAdd, Nat.reduceSub, Nat.reduceMul, Nat.reduceEqDiff, Int.reduceLT, Int.reduceLE, Int.reduceAdd, Int.reduceSub, Int.reduceToNat, reduceCtorEq, hlt, List.take_length, Try.results36]); rfl) (fun hcd => ?_) (fun hcd => ?_) <;> (try (exact Bool.noConfusion hcd))) | (refine goN _ ?_) | (refine ⟨by (subst hO hA; kernel_rfl), ?_⟩) | fail)
end Go.Fw
/- Freebusy: lists of periods in order that do not touch; what covers the same instants is the same list. No program. -/
set_option linter.unusedSimpArgs false
set_option linter.unusedVariables false
namespace Go.Fw
/-- Periods that are not empty, in order, and do not touch. -/
def Can (l : List Period) : Prop := l.Pairwise (fun a b => a.To < b.From) ∧ ∀ p ∈ l, p.From < p.To
theorem busy_iff {l : List Period} {t : Int} : isBusy l t = true ↔ ∃ p ∈ l, p.From ≤ t ∧ t < p.To := by
  simp [isBusy, List.any_eq_true]
theorem busy_cons (p : Period) (l : List Period) (t : Int) : isBusy (p :: l) t = ((decide (p.From ≤ t) && decide (t < p.To)) || isBusy l t) := by
  simp [isBusy]
theorem busy_nil (t : Int) : isBusy [] t = false := rfl
theorem busy_app (a b : List Period) (t : Int) : isBusy (a ++ b) t = (isBusy a t || isBusy b t) := by
  simp [isBusy]
theorem busy_perm {a b : List Period} (h : a.Perm b) (t : Int) : isBusy a t = isBusy b t := by
  rw [Bool.eq_iff_iff, busy_iff, busy_iff]
  constructor
  · rintro ⟨p, hp, h1⟩; exact ⟨p, h.mem_iff.1 hp, h1⟩
  · rintro ⟨p, hp, h1⟩; exact ⟨p, h.mem_iff.2 hp, h1⟩
theorem busy_rev (a : List Period) (t : Int) : isBusy a.reverse t = isBusy a t := busy_perm (List.reverse_perm a) t
theorem Can.tail {p : Period} {l : List Period} (h : Can (p :: l)) : Can l := ⟨(List.pairwise_cons.1 h.1).2, fun q hq => h.2 q (List.mem_cons_of_mem _ hq)⟩
theorem Can.lt {p : Period} {l : List Period} (h : Can (p :: l)) {q : Period} (hq : q ∈ l) : p.To < q.From := (List.pairwise_cons.1 h.1).1 q hq
theorem Can.pos {p : Period} {l : List Period} (h : Can (p :: l)) : p.From < p.To := h.2 p List.mem_cons_self
theorem Can.nil : Can [] := ⟨.nil, by simp⟩
theorem Can.one {p : Period} (h : p.From < p.To) : Can [p] := ⟨List.pairwise_singleton _ _, by simpa using h⟩
theorem Can.snoc {l : List Period} {p : Period} (h : Can l) (hp : p.From < p.To) (hl : ∀ a ∈ l, a.To < p.From) : Can (l ++ [p]) := by
  refine ⟨List.pairwise_append.2 ⟨h.1, List.pairwise_singleton _ _, by simpa using hl⟩, ?_⟩
  intro q hq
  rcases List.mem_append.1 hq with hq | hq
  · exact h.2 q hq
  · simp at hq; subst hq; exact hp
theorem Can.left {a b : List Period} (h : Can (a ++ b)) : Can a := ⟨(List.pairwise_append.1 h.1).1, fun q hq => h.2 q (List.mem_append_left _ hq)⟩
/-- From the first period on, nothing before its start; nothing at its end. -/
theorem Can.ge {p : Period} {l : List Period} (h : Can (p :: l)) {t : Int} (hb : isBusy (p :: l) t = true) : p.From ≤ t := by
  obtain ⟨q, hq, h1, h2⟩ := busy_iff.1 hb
  rcases List.mem_cons.1 hq with rfl | hq
  · exact h1
  · have := h.lt hq; have := h.pos; omega
theorem Can.tail_gt {p : Period} {l : List Period} (h : Can (p :: l)) {t : Int} (hb : isBusy l t = true) : p.To < t := by
  obtain ⟨q, hq, h1, h2⟩ := busy_iff.1 hb
  have := h.lt hq; omega
theorem can_ext : ∀ {a b : List Period}, Can a → Can b → (∀ t, isBusy a t = isBusy b t) → a = b
  | [], [], _, _, _ => rfl
  | [], q :: b, _, hb, h => by
    have := h q.From
    rw [busy_nil, busy_cons] at this
    have := hb.pos
    simp_all
  | p :: a, [], ha, _, h => by
    have := h p.From
    rw [busy_nil, busy_cons] at this
    have := ha.pos
    simp_all
  | p :: a, q :: b, ha, hb, h => by
    have pa := ha.pos
    have pb := hb.pos
    have e1 : p.From = q.From := by
      have h1 : isBusy (p :: a) p.From = true := by rw [busy_cons]; simp [pa]
      have h2 : isBusy (q :: b) q.From = true := by rw [busy_cons]; simp [pb]
      have := hb.ge ((h _).symm.trans h1)
      have := ha.ge ((h _).trans h2)
      omega
    have key : ∀ {x y : Period} {u v : List Period}, Can (x :: u) → Can (y :: v) → x.From = y.From → (∀ t, isBusy (x :: u) t = isBusy (y :: v) t) → ¬ x.To < y.To := by
      intro x y u v hx hy hxy hh hlt
      have h1 : isBusy (y :: v) x.To = true := by
        have := hx.pos
        rw [busy_cons]; simp; left; omega
      have h2 : isBusy (x :: u) x.To = false := by
        rw [busy_cons]
        cases hu : isBusy u x.To with
        | false => simp
        | true => have := hx.tail_gt hu; omega
      rw [hh, h1] at h2
      cases h2
    have e2 : p.To = q.To := by
      have := key ha hb e1 h
      have := key hb ha e1.symm (fun t => (h t).symm)
      omega
    have e : p = q := by
      obtain ⟨_, _⟩ := p
      obtain ⟨_, _⟩ := q
      simp_all
    subst e
    rw [can_ext ha.tail hb.tail]
    intro t
    have ht := h t
    rw [busy_cons, busy_cons] at ht
    cases hc : (decide (p.From ≤ t) && decide (t < p.To)) with
    | false => simpa [hc] using ht
    | true =>
      simp only [Bool.and_eq_true, decide_eq_true_eq] at hc
      cases h1 : isBusy a t with
      | true => have := ha.tail_gt h1; omega
      | false =>
        cases h2 : isBusy b t with
        | true => have := hb.tail_gt h2; omega
        | false => rfl
/-! ### The order -/
def pLe (a b : Period) : Bool := decide (a.From < b.From) || (decide (a.From = b.From) && decide (a.To ≤ b.To))
def pIns (p : Period) : List Period → List Period
  | [] => [p]
  | q :: l => if pLe p q then p :: q :: l else q :: pIns p l
def pSort : List Period → List Period
  | [] => []
  | p :: l => pIns p (pSort l)
theorem pIns_perm (p : Period) : ∀ l, (pIns p l).Perm (p :: l)
  | [] => .refl _
  | q :: l => by
    unfold pIns
    split
    · exact .refl _
    · exact ((pIns_perm p l).cons q).trans (.swap p q l)
theorem pSort_perm : ∀ l, (pSort l).Perm l
  | [] => .refl _
  | p :: l => (pIns_perm p _).trans ((pSort_perm l).cons p)
theorem pLe_trans {a b c : Period} (h : pLe a b = true) (k : pLe b c = true) : pLe a c = true := by
  simp [pLe] at *; omega
theorem pLe_total (a b : Period) : pLe a b = true ∨ pLe b a = true := by
  simp [pLe]; omega
theorem pLe_anti {a b : Period} (h : pLe a b = true) (k : pLe b a = true) : a = b := by
  simp [pLe] at h k
  obtain ⟨_, _⟩ := a
  obtain ⟨_, _⟩ := b
  simp at *
  omega
def Srt (l : List Period) : Prop := l.Pairwise fun a b => pLe a b = true
theorem pIns_srt (p : Period) : ∀ {l}, Srt l → Srt (pIns p l)
  | [], _ => List.pairwise_singleton _ _
  | q :: l, h => by
    unfold pIns
    have h' := List.pairwise_cons.1 h
    split
    · rename_i e
      refine List.pairwise_cons.2 ⟨fun x hx => ?_, h⟩
      rcases List.mem_cons.1 hx with rfl | hx
      · exact e
      · exact pLe_trans e (h'.1 x hx)
    · rename_i e
      refine List.pairwise_cons.2 ⟨fun x hx => ?_, pIns_srt p h'.2⟩
      rcases List.mem_cons.1 ((pIns_perm p l).mem_iff.1 hx) with rfl | hx
      · exact (pLe_total q x).resolve_right e
      · exact h'.1 x hx
theorem pSort_srt : ∀ l, Srt (pSort l)
  | [] => .nil
  | p :: l => pIns_srt p (pSort_srt l)
theorem pSort_uniq {l s : List Period} (h : s.Perm l) (hs : Srt s) : s = pSort l :=
  List.Perm.eq_of_pairwise (le := fun a b => pLe a b = true) (fun a b _ _ h k => pLe_anti h k) hs (pSort_srt l) (h.trans (pSort_perm l).symm)
/-! ### The union -/
def uStep (acc : List Period) (p : Period) : List Period :=
  if p.From = p.To then acc else match acc with
    | [] => [p]
    | q :: r => if p.From ≤ q.To then ⟨q.From, max q.To p.To⟩ :: r else p :: q :: r
def unionF (l : List Period) : List Period := ((pSort l).foldl uStep []).reverse
def Up (l : List Period) : Prop := ∀ p ∈ l, p.From ≤ p.To
theorem can_consR {p : Period} {r : List Period} (h : Can r.reverse) (hp : p.From < p.To) (hl : ∀ a ∈ r, a.To < p.From) : Can (p :: r).reverse := by
  rw [List.reverse_cons]
  exact h.snoc hp (fun a ha => hl a (List.mem_reverse.1 ha))
theorem can_uncons {q : Period} {r : List Period} (h : Can (q :: r).reverse) : Can r.reverse ∧ q.From < q.To ∧ ∀ a ∈ r, a.To < q.From := by
  rw [List.reverse_cons] at h
  refine ⟨h.left, h.2 q (by simp), fun a ha => ?_⟩
  exact (List.pairwise_append.1 h.1).2.2 a (List.mem_reverse.2 ha) q (by simp)
theorem union_fold : ∀ (s acc : List Period), Srt s → Up s → Can acc.reverse → (∀ a ∈ acc, ∀ p ∈ s, a.From ≤ p.From) →
    Can (s.foldl uStep acc).reverse ∧ ∀ t, isBusy (s.foldl uStep acc) t = (isBusy acc t || isBusy s t)
  | [], acc, _, _, hc, _ => ⟨hc, fun t => by simp [busy_nil]⟩
  | p :: s, acc, hs, hu, hc, hle => by
    have hs' := List.pairwise_cons.1 hs
    have hu' : Up s := fun q hq => hu q (List.mem_cons_of_mem _ hq)
    have hp : p.From ≤ p.To := hu p List.mem_cons_self
    have hps : ∀ q ∈ s, p.From ≤ q.From := fun q hq => by
      have := hs'.1 q hq
      simp [pLe] at this
      omega
    have hle' : ∀ a ∈ acc, ∀ q ∈ s, a.From ≤ q.From := fun a ha q hq => hle a ha q (List.mem_cons_of_mem _ hq)
    rw [List.foldl_cons]
    by_cases e : p.From = p.To
    · have hst : uStep acc p = acc := by simp [uStep, e]
      rw [hst]
      obtain ⟨h1, h2⟩ := union_fold s acc hs'.2 hu' hc hle'
      refine ⟨h1, fun t => ?_⟩
      rw [h2, busy_cons]
      have : (decide (p.From ≤ t) && decide (t < p.To)) = false := by
        rw [Bool.eq_false_iff]; simp; omega
      rw [this, Bool.false_or]
    · cases acc with
      | nil =>
        have hst : uStep [] p = [p] := by simp [uStep, e]
        rw [hst]
        obtain ⟨h1, h2⟩ := union_fold s [p] hs'.2 hu' (by simpa using Can.one (by omega)) (by simpa using hps)
        refine ⟨h1, fun t => ?_⟩
        rw [h2, busy_cons, busy_cons, busy_nil]
        simp
      | cons q r =>
        obtain ⟨c1, c2, c3⟩ := can_uncons hc
        have hqp : q.From ≤ p.From := hle q List.mem_cons_self p List.mem_cons_self
        by_cases g : p.From ≤ q.To
        · have hst : uStep (q :: r) p = ⟨q.From, max q.To p.To⟩ :: r := by simp [uStep, e, g]
          rw [hst]
          obtain ⟨h1, h2⟩ := union_fold s (⟨q.From, max q.To p.To⟩ :: r) hs'.2 hu' (can_consR c1 (by simp; omega) c3) (by
            intro a ha x hx
            rcases List.mem_cons.1 ha with rfl | ha
            · exact hle' q List.mem_cons_self x hx
            · exact hle' a (List.mem_cons_of_mem _ ha) x hx)
          refine ⟨h1, fun t => ?_⟩
          rw [h2, busy_cons, busy_cons, busy_cons]
          have : (decide (q.From ≤ t) && decide (t < max q.To p.To)) = ((decide (q.From ≤ t) && decide (t < q.To)) || (decide (p.From ≤ t) && decide (t < p.To))) := by
            rw [Bool.eq_iff_iff]; simp; omega
          simp only [this]
          cases (decide (q.From ≤ t) && decide (t < q.To)) <;> cases (decide (p.From ≤ t) && decide (t < p.To)) <;> cases isBusy r t <;> rfl
        · have hst : uStep (q :: r) p = p :: q :: r := by simp [uStep, e, g]
          rw [hst]
          obtain ⟨h1, h2⟩ := union_fold s (p :: q :: r) hs'.2 hu' (can_consR hc (by omega) (by
            intro a ha
            rcases List.mem_cons.1 ha with rfl | ha
            · omega
            · have := c3 a ha; omega)) (by
            intro a ha x hx
            rcases List.mem_cons.1 ha with rfl | ha
            · exact hps x hx
            · exact hle' a ha x hx)
          refine ⟨h1, fun t => ?_⟩
          rw [h2, busy_cons, busy_cons p s]
          cases isBusy (q :: r) t <;> cases (decide (p.From ≤ t) && decide (t < p.To)) <;> cases isBusy s t <;> rfl
theorem union_spec {l : List Period} (hu : Up l) : Can (unionF l) ∧ ∀ t, isBusy (unionF l) t = isBusy l t := by
  have hu' : Up (pSort l) := fun p hp => hu p ((pSort_perm l).mem_iff.1 hp)
  obtain ⟨h1, h2⟩ := union_fold (pSort l) [] (pSort_srt l) hu' Can.nil (by simp)
  exact ⟨h1, fun t => by rw [unionF, busy_rev, h2, busy_nil, Bool.false_or, busy_perm (pSort_perm l)]⟩
theorem uStep_len (acc : List Period) (p : Period) : (uStep acc p).length ≤ acc.length + 1 := by
  unfold uStep
  split
  · omega
  · split
    · simp
    · split <;> simp
theorem uFold_len : ∀ (s acc : List Period), (s.foldl uStep acc).length ≤ acc.length + s.length
  | [], acc => by simp
  | p :: s, acc => by
    have := uFold_len s (uStep acc p)
    have := uStep_len acc p
    simp only [List.foldl_cons, List.length_cons]
    omega
theorem pSort_len (l : List Period) : (pSort l).length = l.length := (pSort_perm l).length_eq
theorem union_len (l : List Period) : (unionF l).length ≤ l.length := by
  have := uFold_len (pSort l) []
  simp only [unionF, List.length_reverse, pSort_len, List.length_nil] at *
  omega
/-- The ends of a union are ends of the periods. -/
def InB (a b : Int) (l : List Period) : Prop := ∀ p ∈ l, a ≤ p.From ∧ p.To ≤ b
theorem uFold_in {a b : Int} : ∀ (s acc : List Period), InB a b s → InB a b acc → InB a b (s.foldl uStep acc)
  | [], acc, _, h => h
  | p :: s, acc, hs, h => by
    refine uFold_in s _ (fun q hq => hs q (List.mem_cons_of_mem _ hq)) ?_
    have hp := hs p List.mem_cons_self
    unfold uStep
    split
    · exact h
    · split
      · intro q hq; simp at hq; subst hq; exact hp
      · rename_i q r
        have hq := h q List.mem_cons_self
        split
        · intro x hx
          rcases List.mem_cons.1 hx with rfl | hx
          · simp; omega
          · exact h x (List.mem_cons_of_mem _ hx)
        · intro x hx
          rcases List.mem_cons.1 hx with rfl | hx
          · exact hp
          · exact h x hx
theorem union_in {a b : Int} {l : List Period} (h : InB a b l) : InB a b (unionF l) := by
  intro p hp
  rw [unionF, List.mem_reverse] at hp
  exact uFold_in (pSort l) [] (fun q hq => h q ((pSort_perm l).mem_iff.1 hq)) (by intro q hq; simp at hq) p hp
theorem union_self {l : List Period} (h : Can l) : unionF l = l := by
  have hu : Up l := fun p hp => by have := h.2 p hp; omega
  exact can_ext (union_spec hu).1 h (union_spec hu).2
theorem union_perm {l s : List Period} (h : s.Perm l) : unionF s = unionF l := by
  unfold unionF
  rw [pSort_uniq (l := l) ((pSort_perm s).trans h) (pSort_srt s)]
end Go.Fw
/- slices.SortFunc's family at periods: its place in the program (printed by the kit's lay-plain.mjs for seat Ytpgnhajindbhlaa: wip/tools/lay.sh). -/
namespace Go.Proofs
open Go.Shelf
def Try.sortPer_ren : Go.Shelf.Ren := ⟨fun | 6 => 81 | 15 => 93 | 14 => 94 | 28 => 115 | 29 => 116 | 20 => 117 | 21 => 118 | 22 => 119 | 23 => 120 | 24 => 121 | 25 => 122 | 26 => 123 | 27 => 124 | 46 => 133 | 47 => 129 | 48 => 130 | 49 => 134 | 50 => 135 | 57 => 138 | n => n, fun | 22 => 51 | 24 => 24 | 25 => 98 | 3 => 3 | 39 => 126 | 0 => 0 | 53 => 146 | 55 => 148 | 4 => 4 | 46 => 138 | 45 => 137 | 50 => 143 | 5 => 5 | 9 => 9 | 66 => 155 | 70 => 159 | 76 => 164 | 77 => 165 | n => n, fun | n => n⟩
theorem Try.sortPer : Go.Proofs.SlLaysF0.n6 Try.prog Try.sortPer_ren := {
  mixed := by kernel_rfl
  f6 := ⟨Try.f81.name, by decide, Try.func81.trans (congrArg some (by kernel_rfl))⟩
  f14 := ⟨Try.f94.name, by decide, Try.func94.trans (congrArg some (by kernel_rfl))⟩
  f15 := Try.func93.trans (congrArg some (by kernel_rfl))
  f20 := ⟨Try.f117.name, by decide, Try.func117.trans (congrArg some (by kernel_rfl))⟩
  f21 := ⟨Try.f118.name, by decide, Try.func118.trans (congrArg some (by kernel_rfl))⟩
  f22 := ⟨Try.f119.name, by decide, Try.func119.trans (congrArg some (by kernel_rfl))⟩
  f23 := ⟨Try.f120.name, by decide, Try.func120.trans (congrArg some (by kernel_rfl))⟩
  f24 := ⟨Try.f121.name, by decide, Try.func121.trans (congrArg some (by kernel_rfl))⟩
  f25 := ⟨Try.f122.name, by decide, Try.func122.trans (congrArg some (by kernel_rfl))⟩
  f26 := ⟨Try.f123.name, by decide, Try.func123.trans (congrArg some (by kernel_rfl))⟩
  f27 := ⟨Try.f124.name, by decide, Try.func124.trans (congrArg some (by kernel_rfl))⟩
  f28 := Try.func115.trans (congrArg some (by kernel_rfl))
  f29 := Try.func116.trans (congrArg some (by kernel_rfl))
  f46 := ⟨Try.f133.name, by decide, Try.func133.trans (congrArg some (by kernel_rfl))⟩
  f47 := Try.func129.trans (congrArg some (by kernel_rfl))
  f48 := Try.func130.trans (congrArg some (by kernel_rfl))
  f49 := ⟨Try.f134.name, by decide, Try.func134.trans (congrArg some (by kernel_rfl))⟩
  f50 := ⟨Try.f135.name, by decide, Try.func135.trans (congrArg some (by kernel_rfl))⟩
  f57 := ⟨Try.f138.name, by decide, Try.func138.trans (congrArg some (by kernel_rfl))⟩
  t0 := Try.underlying0
  a0 := Try.isAgg0
  z0 := Try.sizeOf0
  v0 := Try.zeroValue0
  t3 := Try.underlying3
  a3 := Try.isAgg3
  z3 := Try.sizeOf3
  v3 := Try.zeroValue3
  t4 := Try.underlying4
  a4 := Try.isAgg4
  z4 := Try.sizeOf4
  v4 := Try.zeroValue4
  t5 := Try.underlying5
  a5 := Try.isAgg5
  z5 := Try.sizeOf5
  v5 := Try.zeroValue5
  t9 := Try.underlying9
  a9 := Try.isAgg9
  z9 := Try.sizeOf9
  v9 := Try.zeroValue9
  t22 := Try.underlying51
  a22 := Try.isAgg51
  z22 := Try.sizeOf51
  v22 := Try.zeroValue51
  t25 := Try.underlying98
  a25 := Try.isAgg98
  z25 := Try.sizeOf98
  v25 := Try.zeroValue98
  t39 := Try.underlying126
  a39 := Try.isAgg126
  z39 := Try.sizeOf126
  v39 := Try.zeroValue126
  t45 := Try.underlying137
  a45 := Try.isAgg137
  z45 := Try.sizeOf137
  v45 := Try.zeroValue137
  t46 := Try.underlying138
  a46 := Try.isAgg138
  z46 := Try.sizeOf138
  v46 := Try.zeroValue138
  t50 := Try.underlying143
  a50 := Try.isAgg143
  z50 := Try.sizeOf143
  v50 := Try.zeroValue143
  t53 := Try.underlying146
  a53 := Try.isAgg146
  z53 := Try.sizeOf146
  v53 := Try.zeroValue146
  t55 := Try.underlying148
  a55 := Try.isAgg148
  z55 := Try.sizeOf148
  v55 := Try.zeroValue148
  t66 := Try.underlying155
  a66 := Try.isAgg155
  z66 := Try.sizeOf155
  v66 := Try.zeroValue155
  t70 := Try.underlying159
  a70 := Try.isAgg159
  z70 := Try.sizeOf159
  v70 := Try.zeroValue159
  t76 := Try.underlying164
  a76 := Try.isAgg164
  z76 := Try.sizeOf164
  v76 := Try.zeroValue164
  t77 := Try.underlying165
  a77 := Try.isAgg165
  z77 := Try.sizeOf165
  v77 := Try.zeroValue165 }
theorem Try.sortPerA : ∀ w, (isAgg (Try.sortPer_ren.t 24)).run Try.prog w = .ok true w := Try.isAgg24
theorem Try.sortPerZ : ∀ w, (Go.sizeOf (Try.sortPer_ren.t 24)).run Try.prog w = .ok 2 w := Try.sizeOf24
end Go.Proofs
/- slices.SortFunc at periods, by the library's contract. -/
set_option linter.unusedSimpArgs false
set_option linter.unusedVariables false
set_option maxRecDepth 20000
namespace Go.Fw
open Go Go.Proofs Go.Proofs.Ytpgnhajindbhlaa.Ty Go.Shelf Go.RowKit Go.Lib Go.Sort
instance : Inhabited Period := ⟨⟨0, 0⟩⟩
def encP (p : Period) : List Value := [.int .i64 p.From, .int .i64 p.To]
theorem Ch.grown {o : Nat → Prop} {w w' : World} (h : Ch o w w') (ho : ∀ b, ¬ o b) : ∃ q os, w' = grow (w.drewN q) os := by
  obtain ⟨h1, h2, h3, h4, h5, h6⟩ := h
  refine ⟨w'.drawn - w.drawn, w'.heap.extract w.heap.size w'.heap.size, ?_⟩
  have hh : w.heap ++ w'.heap.extract w.heap.size w'.heap.size = w'.heap := by
    apply Array.ext_getElem?
    intro k
    rw [Array.getElem?_append]
    by_cases hk : k < w.heap.size
    · rw [if_pos hk]
      exact (h6 k hk (ho k)).symm
    · rw [if_neg hk, Array.getElem?_extract, Nat.min_self]
      by_cases hk2 : k < w'.heap.size
      · rw [if_pos (by omega)]
        congr 1
        omega
      · rw [if_neg (by omega)]
        exact (Array.getElem?_eq_none (by omega)).symm
  obtain ⟨a1, a2, a3, a4, a5⟩ := w
  obtain ⟨b1, b2, b3, b4, b5⟩ := w'
  simp only at h1 h2 h3 h4 h5 hh
  subst h1 h2 h3
  simp only [grow, World.drewN]
  rw [hh]
  congr 1
  omega
theorem Rd_per (bad : Nat → Prop) (w : World) (p : Period) : Rd bad w p.d (.agg ⟨encP p⟩) := by
  refine .agg rfl (fun j x hx => ?_) (fun j c x hc hx => ?_)
  · match j with
    | 0 => simp [encP] at hx; subst hx; rfl
    | 1 => simp [encP] at hx; subst hx; rfl
    | j + 2 => simp [encP] at hx
  · match j with
    | 0 => simp [encP] at hx hc; subst hx hc; exact .v rfl
    | 1 => simp [encP] at hx hc; subst hx hc; exact .v rfl
    | j + 2 => simp [encP] at hx
theorem cmpLays_of {P : Program} {g : FuncId} {cf : Period → Period → Int} (hc : ∀ a b : Period, PCalls P g [a.d, b.d] (.d (.v (.int .i64 (cf a b))))) (blk off size : Nat) (w : World) :
    CmpLays P g #[] encP 2 cf blk off size w := by
  intro m os dk _ x y
  have h := (hc x y).2 (fun _ => False) (sortWorldK encP 2 w blk off m dk os) (fun _ _ _ => none) [.agg ⟨encP x⟩, .agg ⟨encP y⟩] ⟨rfl, fun j c u hc hu => ?_⟩ rfl (fun _ _ _ => rfl) (HRel.dead (fun _ h => h.elim))
  · refine h.mono ?_
    rintro e w' ⟨v, r, H', K', rfl, rfl, hrel, _, hrv, _⟩
    cases hrv with
    | d hd =>
      cases hd with
      | v _ => exact ⟨rfl, hrel.ext.grown (by rintro b ⟨_, _, h⟩; exact h)⟩
  · match j with
    | 0 => simp at hc hu; subst hc hu; exact .d (Rd_per _ _ x)
    | 1 => simp at hc hu; subst hc hu; exact .d (Rd_per _ _ y)
    | j + 2 => simp at hu
theorem pflat_at : ∀ (d : List Period) (j : Nat), (d.flatMap encP)[j]? = (d[j / 2]?).bind fun p => (encP p)[j % 2]?
  | [], j => by simp
  | p :: d, 0 => by simp [encP]
  | p :: d, 1 => by simp [encP]
  | p :: d, j + 2 => by
    have e1 : (j + 2) / 2 = j / 2 + 1 := by omega
    have e2 : (j + 2) % 2 = j % 2 := by omega
    rw [e1, e2, List.getElem?_cons_succ, ← pflat_at d j]
    simp [encP]
theorem pflat_len (d : List Period) : (d.flatMap encP).length = d.length * 2 := by
  induction d with
  | nil => rfl
  | cons p d ih => simp only [List.flatMap_cons, List.length_append, ih, List.length_cons, encP, List.length_nil]; omega
theorem flatK_per (d : List Period) : flatK encP 2 d.toArray = (d.flatMap encP).toArray := by
  apply Array.ext
  · rw [size_flatK, List.size_toArray, List.size_toArray, pflat_len]
  · intro j h1 h2
    have hj : j < d.toArray.size * 2 := by simpa using h1
    have hj' : j < d.length * 2 := by simpa using hj
    have h3 := get_flatK encP 2 d.toArray j hj
    rw [getElem!_pos _ j h1] at h3
    rw [h3]
    have h4 := pflat_at d j
    have hd : j / 2 < d.length := by omega
    rw [List.getElem?_eq_getElem hd, Option.bind_some] at h4
    have h5 : d.toArray[j / 2]! = d[j / 2] := by simp [hd]
    rw [h5]
    have h6 : j % 2 < (encP d[j / 2]).length := by simp [encP]; omega
    rw [List.getElem?_eq_getElem h6, List.getElem?_eq_getElem (by simpa using h2)] at h4
    rw [getElem!_pos (encP d[j / 2]) (j % 2) h6]
    simp only [Option.some.injEq] at h4
    simp [h4]
theorem cells_per : ∀ (d : List Period), (d.map Period.d).flatMap DVal.cells = (d.flatMap encP).map DVal.v
  | [] => rfl
  | p :: d => by
    simp only [List.map_cons, List.flatMap_cons, cells_per d, List.map_append]
    rfl
theorem sorted_of {cf : Period → Period → Int} (hcf : ∀ a b, cf a b < 0 ↔ ¬ pLe b a = true) {d : List Period} {d' : Array Period} (hp : PermIn 0 d.toArray.size d.toArray d') (hs : SortedIn (ltOf cf) 0 d.toArray.size d') : d'.toList = pSort d := by
  obtain ⟨h1, _, h2⟩ := hp
  have hperm : d'.toList.Perm d := by
    have e1 : (d'.extract 0 d.toArray.size).toList = d'.toList := by rw [← h1]; simp
    have e2 : (d.toArray.extract 0 d.toArray.size).toList = d := by simp
    rwa [e1, e2] at h2
  refine pSort_uniq hperm ?_
  unfold Srt
  rw [List.pairwise_iff_getElem]
  intro i j hi hj hij
  have hi' : i < d'.size := by simpa using hi
  have hj' : j < d'.size := by simpa using hj
  have := hs i j (Nat.zero_le _) hij (by omega)
  rw [getElem!_pos _ i hi', getElem!_pos _ j hj'] at this
  simp only [ltOf, decide_eq_false_iff_not, hcf, Decidable.not_not] at this
  simpa using this
theorem swo_of {cf : Period → Period → Int} (hcf : ∀ a b, cf a b < 0 ↔ ¬ pLe b a = true) : SWO (ltOf cf) := by
  have key : ∀ a b, ltOf cf a b = !pLe b a := fun a b => by
    rw [Bool.eq_iff_iff]; simp [ltOf, hcf]
  constructor
  · intro x; rw [key]; simp [pLe]
  · intro x y z h1 h2
    rw [key] at *
    simp [pLe] at *; omega
  · intro x y z h1 h2
    rw [key] at *
    simp [pLe] at *; omega
theorem sort_c {lev l t : Nat} {H : Hp} (g : FuncId) {cf : Period → Period → Int} (hg : hasBody Try.prog g = true) (eg : ∀ args w, (callFunc g args).run Try.prog w = .ok (.enter g args) w) (hc : ∀ a b : Period, PCalls Try.prog g [a.d, b.d] (.d (.v (.int .i64 (cf a b))))) (hcf : ∀ a b, cf a b < 0 ↔ ¬ pLe b a = true)
    (d : List Period) (hl : l < lev) (hH : H l t = .arr 2 (d.map Period.d)) (hb : d.length < 4611686018427387904) :
    ACalls Try.prog 81 [.ref l t d.length, .clo g []] lev H (fun r H' => r = .tup [] ∧ H' = H.set l t (.arr 2 ((pSort d).map Period.d))) := by
  refine ⟨by kernel_rfl, fun S0 w K vs hp hbel hdead hrel => ?_⟩
  obtain ⟨hlen, hvs⟩ := hp
  match vs, hlen, hvs with
  | [v1, v2], _, hvs =>
  have r1 := hvs 0 _ _ rfl rfl
  have r2 := hvs 1 _ _ rfl rfl
  cases r1 with
  | ref hk =>
  rename_i cap sz a hx0
  cases r2 with
  | clo hl2 hh2 =>
  rename_i ws
  obtain rfl : ws = [] := by simpa using hl2
  have hob := hrel.ob l t
  rw [hH] at hob
  obtain ⟨hn, a', cap', hk', hsz, hcap, harr⟩ := hob
  rw [List.length_map] at hk' hcap hn
  rw [hk] at hk'
  simp only [Option.some.injEq, Prod.mk.injEq] at hk'
  obtain ⟨rfl, rfl, rfl⟩ := hk'
  cases a with
  | none =>
    obtain ⟨h1, h2⟩ := harr
    obtain rfl : d = [] := by simpa using h1
    have h := AnyF.slices_SortFunc_none Try.sortPer none cap (.func (.func g) #[] ⟨[]⟩) w
    refine Calls.mono (show Calls Try.prog 81 _ w _ from h) ?_
    rintro e w' ⟨rfl, rfl⟩
    have hHs : H.set l t (.arr 2 ((pSort []).map Period.d)) = H := by
      funext l' t'
      by_cases c : l' = l ∧ t' = t
      · obtain ⟨rfl, rfl⟩ := c
        rw [Hp.set_same, hH]; rfl
      · rw [Hp.set_ne c]
    exact ⟨_, .tup [], H, K, rfl, ⟨rfl, hHs.symm⟩, hrel, hdead, .tup rfl (by simp), rfl⟩
  | some ad =>
    obtain ⟨blk, off, spot⟩ := ad
    obtain ⟨rfl, vs, ty, fz, hheap, hfz, hroom, hcells⟩ := harr
    have hblk : blk < w.heap.size := hrel.size (l := l) (t := t) (b := blk) (by rw [hH]; exact ⟨off, _, by rw [List.length_map]; exact hk⟩)
    rw [cells_per] at hcells
    dsimp only at hheap hroom hcells
    have hcell : ∀ j, j < d.length * 2 → w.cell? ⟨blk, off + j, none⟩ = some (d.flatMap encP)[j]! ∧ vs[off + j]? = some (d.flatMap encP)[j]! := by
      intro j hj
      have hj' : j < (d.flatMap encP).length := by rw [pflat_len]; exact hj
      obtain ⟨u, hu, _, hr⟩ := hcells j (.v (d.flatMap encP)[j]) (by simp [hj'])
      have hu2 : u = (d.flatMap encP)[j]! := by
        rw [getElem!_pos _ j hj']
        cases hr with | v _ => rfl
      rw [← hu2]
      refine ⟨?_, hu⟩
      simp only [World.cell?, hheap]
      simpa using hu
    have hHolds : HoldsK encP 2 w blk off d.toArray := by
      unfold HoldsK
      rw [flatK_per]
      intro j hj
      have hj' : j < d.length * 2 := by rw [List.size_toArray, pflat_len] at hj; exact hj
      refine ⟨by simpa using (hcell j hj').1, ?_⟩
      have hlt : off + j < vs.length := by
        have : d.length * 2 ≤ cap * 2 := by omega
        omega
      have := hfz (off + j) hlt
      simp only [World.frozen?, hheap]
      simpa using this
    have h := AnyQ.slices_SortFunc Try.sortPer 2 Try.sortPerA Try.sortPerZ encP (fun _ => rfl) (fun x v hv => by simp [encP] at hv; rcases hv with rfl | rfl <;> rfl) cf (swo_of hcf) g #[] blk off cap d.toArray w eg (cmpLays_of hc blk off d.toArray.size w) hHolds hblk (by simpa using hb)
    have h' : Calls Try.prog 81 ⟨[.slice (some ⟨blk, off, none⟩) d.length cap, .func (.func g) #[] ⟨[]⟩]⟩ w _ := h
    refine h'.mono ?_
    rintro e w' ⟨rfl, d', n, os, hpm, hst, rfl⟩
    have hd' : d' = (pSort d).toArray := by rw [← sorted_of hcf hpm hst]
    subst hd'
    have hL : (pSort d).length = d.length := pSort_len d
    have hheap' : (sortWorldK encP 2 w blk off n (pSort d).toArray os).heap = w.heap.modify blk (onCells (putCells id off (flatK encP 2 (pSort d).toArray))) ++ os := rfl
    have hch : Ch (fun b => (H l t).own K l t b) w (sortWorldK encP 2 w blk off n (pSort d).toArray os) := by
      refine ⟨rfl, rfl, rfl, ?_, ?_, fun b hbs hbn => ?_⟩
      · rw [hheap']; simp
      · show w.drawn ≤ w.drawn + n; omega
      · rw [hheap', Array.getElem?_append_left (by simpa using hbs), Array.getElem?_modify, if_neg]
        rintro rfl
        exact hbn (by rw [hH]; exact ⟨off, _, by rw [List.length_map]; exact hk⟩)
    have hblock : (sortWorldK encP 2 w blk off n (pSort d).toArray os).heap[blk]? = some (.cells (putCells id off (flatK encP 2 (pSort d).toArray) ⟨vs⟩) ty fz) := by
      rw [hheap', Array.getElem?_append_left (by simpa using hblk), Array.getElem?_modify, if_pos rfl, hheap]
      rfl
    have hwr := hrel.write (l := l) (t := t) (o' := .arr 2 ((pSort d).map Period.d)) (K' := K) hch (fun _ _ _ _ h => h) (fun _ _ _ => rfl)
      (by
        rintro b ⟨o, z, hz⟩
        refine .inl ?_
        rw [hH]
        refine ⟨o, z, ?_⟩
        rw [List.length_map] at hz ⊢
        rw [← hz, hL])
      (by
        refine ⟨fun m hm => hn m (by rw [List.length_map, hL] at hm; exact hm), some ⟨blk, off, none⟩, cap, by rw [List.length_map, hL]; exact hk, ?_, by rw [List.length_map, hL]; exact hcap, rfl, (putCells id off (flatK encP 2 (pSort d).toArray) ⟨vs⟩).toList, ty, fz, hblock, ?_, ?_, ?_⟩
        · intro x hx
          obtain ⟨p, _, rfl⟩ := List.mem_map.1 hx
          rfl
        · intro j hj
          exact hfz j (by simpa [putCells] using hj)
        · simpa [putCells] using hroom
        · intro j c hc
          rw [cells_per, List.getElem?_map] at hc
          obtain ⟨x, hx, rfl⟩ := Option.map_eq_some_iff.1 hc
          have hj : j < d.length * 2 := by
            have := (List.getElem?_eq_some_iff.1 hx).1
            rwa [pflat_len, hL] at this
          have hlt : off + j < vs.length := by
            have : d.length * 2 ≤ cap * 2 := by omega
            omega
          have hone : x.oneCell' = true := by
            have hm := List.mem_of_getElem? hx
            obtain ⟨p, _, hp⟩ := List.mem_flatMap.1 hm
            simp [encP] at hp
            rcases hp with rfl | rfl <;> rfl
          refine ⟨x, ?_, hone, .v hone⟩
          have hx' : (flatK encP 2 (pSort d).toArray)[j]! = x := by
            rw [flatK_per]
            simp [hx]
          simp only [putCells, Array.toList_mapIdx, List.getElem?_mapIdx, List.getElem?_eq_getElem hlt, Option.map_some, id]
          rw [if_pos ⟨by omega, by rw [size_flatK]; simp [hL]; omega⟩, show off + j - off = j by omega, hx'])
      rfl (by omega)
    refine ⟨_, .tup [], _, K, rfl, ⟨rfl, rfl⟩, hwr, fun l' t' hlt => ?_, .tup rfl (by simp), rfl⟩
    rw [Hp.set_ne (by omega)]
    exact hdead l' t' hlt
end Go.Fw
/- Freebusy: the gaps. No program. -/
set_option linter.unusedSimpArgs false
set_option linter.unusedVariables false
namespace Go.Fw
def gPut (n a b : Int) (acc : List Period) : List Period := if n ≤ b - a then acc ++ [⟨a, b⟩] else acc
def gStep (from' to' n : Int) (s : List Period × Int) (p : Period) : List Period × Int :=
  if p.To ≤ from' ∨ to' ≤ p.From then s else (gPut n s.2 (max p.From from') s.1, min p.To to')
def gapsU (u : List Period) (from' to' n : Int) : List Period :=
  let s := u.foldl (gStep from' to' n) ([], from')
  gPut n s.2 to' s.1
def gapsF (l : List Period) (from' to' n : Int) : List Period := gapsU (unionF l) from' to' n
theorem longF_app (a b : List Period) (n : Int) : longF (a ++ b) n = longF a n ++ longF b n := by simp [longF]
theorem gPut_long {n a b : Int} (hn : 1 ≤ n) (acc acc' : List Period) (h : acc' = longF acc n) : gPut n a b acc' = longF (gPut 1 a b acc) n := by
  unfold gPut
  by_cases h1 : n ≤ b - a
  · rw [if_pos h1, if_pos (by omega), longF_app, h]
    simp [longF, h1]
  · rw [if_neg h1]
    split
    · rw [longF_app, h]; simp [longF]; omega
    · exact h
theorem gFold_long {f t n : Int} (hn : 1 ≤ n) : ∀ (u : List Period) (s s' : List Period × Int), s'.1 = longF s.1 n → s'.2 = s.2 →
    (u.foldl (gStep f t n) s').1 = longF (u.foldl (gStep f t 1) s).1 n ∧ (u.foldl (gStep f t n) s').2 = (u.foldl (gStep f t 1) s).2
  | [], s, s', h1, h2 => ⟨h1, h2⟩
  | p :: u, s, s', h1, h2 => by
    rw [List.foldl_cons, List.foldl_cons]
    refine gFold_long hn u _ _ ?_ ?_
    · unfold gStep
      split
      · exact h1
      · rw [h2]; exact gPut_long hn _ _ h1
    · unfold gStep
      split
      · exact h2
      · rfl
theorem gaps_long {l : List Period} {f t n : Int} (hn : 1 ≤ n) : gapsF l f t n = longF (gapsF l f t 1) n := by
  unfold gapsF gapsU
  obtain ⟨h1, h2⟩ := gFold_long (f := f) (t := t) hn (unionF l) ([], f) ([], f) rfl rfl
  simp only [h2]
  exact gPut_long hn _ _ h1
theorem gap_fold {f t : Int} : ∀ (s acc : List Period) (x : Int), Can s → f ≤ x → x ≤ t → ((∀ p ∈ s, x ≤ p.From) ∨ x = f) → Can acc → (∀ a ∈ acc, a.To < x) →
    Can (gPut 1 (s.foldl (gStep f t 1) (acc, x)).2 t (s.foldl (gStep f t 1) (acc, x)).1) ∧
    ∀ i, isBusy (gPut 1 (s.foldl (gStep f t 1) (acc, x)).2 t (s.foldl (gStep f t 1) (acc, x)).1) i = (isBusy acc i || (decide (x ≤ i) && decide (i < t) && !isBusy s i))
  | [], acc, x, _, hf, ht, _, hc, hl => by
    simp only [List.foldl_nil]
    unfold gPut
    split
    · refine ⟨hc.snoc (by simp; omega) (by simpa using hl), fun i => ?_⟩
      rw [busy_app, busy_cons, busy_nil]
      simp
    · refine ⟨hc, fun i => ?_⟩
      have : (decide (x ≤ i) && decide (i < t)) = false := by rw [Bool.eq_false_iff]; simp; omega
      rw [this]; simp
  | p :: s, acc, x, hs, hf, ht, hx, hc, hl => by
    have hp := hs.pos
    have hlt := fun q hq => hs.lt (q := q) hq
    rw [List.foldl_cons]
    by_cases e : p.To ≤ f ∨ t ≤ p.From
    · have hst : gStep f t 1 (acc, x) p = (acc, x) := by simp [gStep, e]
      rw [hst]
      obtain ⟨h1, h2⟩ := gap_fold s acc x hs.tail hf ht (hx.imp (fun h q hq => h q (List.mem_cons_of_mem _ hq)) id) hc hl
      refine ⟨h1, fun i => ?_⟩
      rw [h2, busy_cons]
      cases hb : (decide (x ≤ i) && decide (i < t)) with
      | false => rfl
      | true =>
        have : (decide (p.From ≤ i) && decide (i < p.To)) = false := by
          rw [Bool.eq_false_iff]; simp at hb ⊢; omega
        rw [this]; simp
    · have hst : gStep f t 1 (acc, x) p = (gPut 1 x (max p.From f) acc, min p.To t) := by simp only [gStep, if_neg e]
      rw [hst]
      have hfx : x ≤ max p.From f := by
        rcases hx with hx | rfl
        · have := hx p List.mem_cons_self; omega
        · omega
      have hc' : Can (gPut 1 x (max p.From f) acc) ∧ (∀ a ∈ gPut 1 x (max p.From f) acc, a.To < min p.To t) ∧ ∀ i, isBusy (gPut 1 x (max p.From f) acc) i = (isBusy acc i || (decide (x ≤ i) && decide (i < max p.From f))) := by
        unfold gPut
        split
        · refine ⟨hc.snoc (by simp; omega) (by simpa using hl), fun a ha => ?_, fun i => ?_⟩
          · rcases List.mem_append.1 ha with ha | ha
            · have := hl a ha; omega
            · simp at ha; subst ha; simp; omega
          · rw [busy_app, busy_cons, busy_nil]; simp
        · refine ⟨hc, fun a ha => ?_, fun i => ?_⟩
          · have := hl a ha; omega
          · have : (decide (x ≤ i) && decide (i < max p.From f)) = false := by rw [Bool.eq_false_iff]; simp; omega
            rw [this]; simp
      obtain ⟨h1, h2⟩ := gap_fold (f := f) (t := t) s _ (min p.To t) hs.tail (by omega) (by omega) (.inl (fun q hq => by have := hlt q hq; omega)) hc'.1 hc'.2.1
      refine ⟨h1, fun i => ?_⟩
      rw [h2, hc'.2.2, busy_cons]
      cases isBusy acc i with
      | true => simp
      | false =>
        simp only [Bool.false_or]
        cases hb : isBusy s i with
        | false =>
          rw [Bool.eq_iff_iff]; simp; omega
        | true =>
          have := hs.tail_gt hb
          rw [Bool.eq_iff_iff]; simp; omega
theorem gap_spec {l : List Period} {f t : Int} (hu : Up l) (hft : f ≤ t) : Can (gapsF l f t 1) ∧ ∀ i, isBusy (gapsF l f t 1) i = (decide (f ≤ i) && decide (i < t) && !isBusy l i) := by
  obtain ⟨h1, h2⟩ := union_spec hu
  obtain ⟨h3, h4⟩ := gap_fold (f := f) (t := t) (unionF l) [] f h1 (by omega) hft (.inr rfl) Can.nil (by simp)
  exact ⟨h3, fun i => by
    have := h4 i
    rw [busy_nil, Bool.false_or, h2] at this
    exact this⟩
theorem gPut_len (n a b : Int) (acc : List Period) : (gPut n a b acc).length ≤ acc.length + 1 := by
  unfold gPut; split <;> simp
theorem gFold_len (f t n : Int) : ∀ (s : List Period) (a : List Period × Int), (s.foldl (gStep f t n) a).1.length ≤ a.1.length + s.length
  | [], a => by simp
  | p :: s, a => by
    have h := gFold_len f t n s (gStep f t n a p)
    have : (gStep f t n a p).1.length ≤ a.1.length + 1 := by
      unfold gStep; split
      · omega
      · exact gPut_len ..
    simp only [List.foldl_cons, List.length_cons]
    omega
theorem gaps_len (l : List Period) (f t n : Int) : (gapsF l f t n).length ≤ l.length + 1 := by
  unfold gapsF gapsU
  have h1 := gFold_len f t n (unionF l) ([], f)
  have h2 := gPut_len n ((unionF l).foldl (gStep f t n) ([], f)).2 t ((unionF l).foldl (gStep f t n) ([], f)).1
  have h3 := union_len l
  simp only [List.length_nil] at h1
  simp only
  omega
/-- The current end stays in the span. -/
theorem gFold_at {f t n : Int} (hft : f ≤ t) : ∀ (s : List Period) (a : List Period × Int), f ≤ a.2 ∧ a.2 ≤ t → f ≤ (s.foldl (gStep f t n) a).2 ∧ (s.foldl (gStep f t n) a).2 ≤ t
  | [], a, h => h
  | p :: s, a, h => by
    rw [List.foldl_cons]
    refine gFold_at hft s _ ?_
    unfold gStep
    split
    · exact h
    · simp; omega
/-! ### What is free and what is busy make up the span -/
def sumL : List Period → Int
  | [] => 0
  | p :: l => (p.To - p.From) + sumL l
theorem sumL_app : ∀ a b, sumL (a ++ b) = sumL a + sumL b
  | [], b => by simp [sumL]
  | p :: a, b => by simp only [List.cons_append, sumL, sumL_app a b]; omega
def clip (f t : Int) (p : Period) : Int := let n := min p.To t - max p.From f; if 0 < n then n else 0
def sumC (f t : Int) : List Period → Int
  | [] => 0
  | p :: l => clip f t p + sumC f t l
theorem parts_fold {f t : Int} : ∀ (s acc : List Period) (x : Int), Can s → f ≤ x → x ≤ t → ((∀ p ∈ s, x ≤ p.From) ∨ x = f) →
    sumL (gPut 1 (s.foldl (gStep f t 1) (acc, x)).2 t (s.foldl (gStep f t 1) (acc, x)).1) + sumC f t s = sumL acc + (t - x)
  | [], acc, x, _, hf, ht, _ => by
    simp only [List.foldl_nil, sumC]
    unfold gPut
    split
    · rw [sumL_app]; simp [sumL]
    · omega
  | p :: s, acc, x, hs, hf, ht, hx => by
    have hp := hs.pos
    have hlt := fun q hq => hs.lt (q := q) hq
    rw [List.foldl_cons]
    by_cases e : p.To ≤ f ∨ t ≤ p.From
    · have hst : gStep f t 1 (acc, x) p = (acc, x) := by simp [gStep, e]
      rw [hst]
      have h1 := parts_fold s acc x hs.tail hf ht (hx.imp (fun h q hq => h q (List.mem_cons_of_mem _ hq)) id)
      have : clip f t p = 0 := by unfold clip; simp only; split <;> omega
      simp only [sumC]
      omega
    · have hst : gStep f t 1 (acc, x) p = (gPut 1 x (max p.From f) acc, min p.To t) := by simp only [gStep, if_neg e]
      rw [hst]
      have hfx : x ≤ max p.From f := by
        rcases hx with hx | rfl
        · have := hx p List.mem_cons_self; omega
        · omega
      have h1 := parts_fold (f := f) (t := t) s (gPut 1 x (max p.From f) acc) (min p.To t) hs.tail (by omega) (by omega) (.inl (fun q hq => by have := hlt q hq; omega))
      have h2 : sumL (gPut 1 x (max p.From f) acc) = sumL acc + (max p.From f - x) := by
        unfold gPut
        split
        · rw [sumL_app]; simp [sumL]
        · omega
      have h3 : clip f t p = min p.To t - max p.From f := by unfold clip; simp only; split <;> omega
      simp only [sumC]
      omega
theorem parts {l : List Period} {f t : Int} (hu : Up l) (hft : f ≤ t) : sumL (gapsF l f t 1) + sumC f t (unionF l) = t - f := by
  have := parts_fold (f := f) (t := t) (unionF l) [] f (union_spec hu).1 (by omega) hft (.inr rfl)
  simp only [sumL] at this
  unfold gapsF gapsU
  simp only
  omega
end Go.Fw
/- Freebusy: the ends of periods in order; the longest periods that are all busy or all free. No program. -/
set_option linter.unusedSimpArgs false
set_option linter.unusedVariables false
namespace Go.Fw
/-- The least number above last, at most to. -/
def nextB (all : List Int) (last to' : Int) : Int := all.foldl (fun nx x => if last < x ∧ x < nx then x else nx) (to' + 1)
theorem nextB_gen (last : Int) : ∀ (all : List Int) (n0 : Int), 
    let r := all.foldl (fun nx x => if last < x ∧ x < nx then x else nx) n0
    r ≤ n0 ∧ (r = n0 ∨ (r ∈ all ∧ last < r)) ∧ ∀ x ∈ all, last < x → r ≤ x
  | [], n0 => ⟨Int.le_refl _, .inl rfl, by simp⟩
  | y :: all, n0 => by
    obtain ⟨h1, h2, h3⟩ := nextB_gen last all (if last < y ∧ y < n0 then y else n0)
    simp only [List.foldl_cons]
    try simp only at h1 h2 h3
    generalize all.foldl (fun nx x => if last < x ∧ x < nx then x else nx) (if last < y ∧ y < n0 then y else n0) = r at h1 h2 h3
    by_cases c : last < y ∧ y < n0
    · rw [if_pos c] at h1 h2
      refine ⟨by omega, .inr ?_, fun x hx hl => ?_⟩
      · rcases h2 with rfl | ⟨h2, h4⟩
        · exact ⟨List.mem_cons_self, c.1⟩
        · exact ⟨List.mem_cons_of_mem _ h2, h4⟩
      · rcases List.mem_cons.1 hx with rfl | hx
        · exact h1
        · exact h3 x hx hl
    · rw [if_neg c] at h1 h2
      refine ⟨h1, h2.imp id (fun h => ⟨List.mem_cons_of_mem _ h.1, h.2⟩), fun x hx hl => ?_⟩
      rcases List.mem_cons.1 hx with rfl | hx
      · omega
      · exact h3 x hx hl
theorem nextB_spec (all : List Int) (last to' : Int) : nextB all last to' ≤ to' + 1 ∧ (nextB all last to' = to' + 1 ∨ (nextB all last to' ∈ all ∧ last < nextB all last to')) ∧ ∀ x ∈ all, last < x → nextB all last to' ≤ x := nextB_gen last all (to' + 1)
def boundsL (all : List Int) (to' last : Int) : List Int :=
  if h : nextB all last to' ≤ to' then nextB all last to' :: boundsL all to' (nextB all last to') else []
termination_by (to' - last).toNat
decreasing_by
  have := (nextB_spec all last to').2.1
  omega
theorem boundsL_stop {all : List Int} {to' last : Int} (h : ¬ nextB all last to' ≤ to') : boundsL all to' last = [] := by
  rw [boundsL, dif_neg h]
theorem boundsL_go {all : List Int} {to' last : Int} (h : nextB all last to' ≤ to') : boundsL all to' last = nextB all last to' :: boundsL all to' (nextB all last to') := by
  rw [boundsL, dif_pos h]
theorem boundsL_spec (all : List Int) (to' : Int) : ∀ (k : Nat) (last : Int), (to' - last).toNat ≤ k →
    (boundsL all to' last).Pairwise (· < ·) ∧ ∀ x, x ∈ boundsL all to' last ↔ x ∈ all ∧ last < x ∧ x ≤ to' := by
  intro k
  induction k with
  | zero =>
    intro last hk
    obtain ⟨h1, h2, h3⟩ := nextB_spec all last to'
    rw [boundsL_stop (by omega)]
    refine ⟨.nil, fun x => ?_⟩
    simp
    omega
  | succ k ih =>
    intro last hk
    obtain ⟨h1, h2, h3⟩ := nextB_spec all last to'
    by_cases c : nextB all last to' ≤ to'
    · have h4 : nextB all last to' ∈ all ∧ last < nextB all last to' := by
        rcases h2 with h2 | h2
        · omega
        · exact h2
      obtain ⟨i1, i2⟩ := ih (nextB all last to') (by omega)
      rw [boundsL_go c]
      refine ⟨List.pairwise_cons.2 ⟨fun x hx => ((i2 x).1 hx).2.1, i1⟩, fun x => ?_⟩
      rw [List.mem_cons, i2]
      constructor
      · rintro (rfl | ⟨a, b, c⟩)
        · exact ⟨h4.1, h4.2, c⟩
        · exact ⟨a, by omega, c⟩
      · rintro ⟨a, b, c⟩
        have := h3 x a b
        rcases Int.lt_or_eq_of_le this with h | h
        · exact .inr ⟨a, h, c⟩
        · exact .inl h.symm
    · rw [boundsL_stop c]
      refine ⟨.nil, fun x => ?_⟩
      simp
      intro a b
      have := h3 x a b
      omega
def endsF (l : List Period) (from' to' : Int) : List Int := from' :: to' :: l.flatMap fun p => [p.From, p.To]
def boundsF (l : List Period) (from' to' : Int) : List Int := boundsL (endsF l from' to') to' (from' - 1)
theorem bounds_spec (l : List Period) (f t : Int) : (boundsF l f t).Pairwise (· < ·) ∧ ∀ x, x ∈ boundsF l f t ↔ x ∈ endsF l f t ∧ f ≤ x ∧ x ≤ t := by
  obtain ⟨h1, h2⟩ := boundsL_spec (endsF l f t) t _ (f - 1) (Nat.le_refl _)
  exact ⟨h1, fun x => by rw [boundsF, h2]; exact and_congr Iff.rfl (by omega)⟩
/-- A rising list of numbers in a range is not longer than the range. -/
theorem rising_len {b : Int} : ∀ (l : List Int) (a : Int), l.Pairwise (· < ·) → (∀ x ∈ l, a ≤ x ∧ x ≤ b) → (l.length : Int) ≤ max 0 (b - a + 1)
  | [], a, _, _ => by simp; omega
  | x :: l, a, h, hr => by
    have h' := List.pairwise_cons.1 h
    have := rising_len (b := b) l (x + 1) h'.2 (fun y hy => ⟨by have := h'.1 y hy; omega, (hr y (List.mem_cons_of_mem _ hy)).2⟩)
    have := hr x List.mem_cons_self
    simp only [List.length_cons]
    omega
theorem bounds_len (l : List Period) (f t : Int) (hft : f ≤ t) : ((boundsF l f t).length : Int) ≤ t - f + 1 := by
  obtain ⟨h1, h2⟩ := bounds_spec l f t
  have := rising_len (b := t) (boundsF l f t) f h1 (fun x hx => ((h2 x).1 hx).2)
  omega
/-! ### The longest periods -/
def wStep (l : List Period) (busy : Bool) (acc : List Period) (x y : Int) : List Period :=
  if isBusy l x = busy then
    match acc with
    | [] => [⟨x, y⟩]
    | q :: r => if q.To = x then ⟨q.From, y⟩ :: r else ⟨x, y⟩ :: q :: r
  else acc
def wAt (l : List Period) (busy : Bool) (b : List Int) (k : Nat) : List Period :=
  (List.range k).foldl (fun acc j => wStep l busy acc (b.getD j 0) (b.getD (j + 1) 0)) []
def withinF (l : List Period) (from' to' : Int) (busy : Bool) : List Period :=
  (wAt l busy (boundsF l from' to') ((boundsF l from' to').length - 1)).reverse
theorem wAt_succ (l : List Period) (busy : Bool) (b : List Int) (k : Nat) : wAt l busy b (k + 1) = wStep l busy (wAt l busy b k) (b.getD k 0) (b.getD (k + 1) 0) := by
  simp only [wAt, List.range_succ, List.foldl_append, List.foldl_cons, List.foldl_nil]
theorem wStep_len (l : List Period) (busy : Bool) (acc : List Period) (x y : Int) : (wStep l busy acc x y).length ≤ acc.length + 1 := by
  unfold wStep
  split
  · split
    · simp
    · split <;> simp
  · omega
theorem wAt_len (l : List Period) (busy : Bool) (b : List Int) : ∀ k, (wAt l busy b k).length ≤ k
  | 0 => by simp [wAt]
  | k + 1 => by
    rw [wAt_succ]
    have := wAt_len l busy b k
    have := wStep_len l busy (wAt l busy b k) (b.getD k 0) (b.getD (k + 1) 0)
    omega
theorem within_fold {l : List Period} {b : List Int} (hb : b.Pairwise (· < ·)) (busy : Bool)
    (hcon : ∀ k, k + 1 < b.length → ∀ i, b.getD k 0 ≤ i → i < b.getD (k + 1) 0 → isBusy l i = isBusy l (b.getD k 0)) :
    ∀ k, k < b.length → Can (wAt l busy b k).reverse ∧ (∀ a ∈ wAt l busy b k, a.To ≤ b.getD k 0) ∧
      ∀ i, isBusy (wAt l busy b k) i = (decide (b.getD 0 0 ≤ i) && decide (i < b.getD k 0) && (isBusy l i == busy))
  | 0, _ => by
    refine ⟨Can.nil, by simp [wAt], fun i => ?_⟩
    simp [wAt, busy_nil]
    omega
  | k + 1, hk => by
    obtain ⟨h1, h2, h3⟩ := within_fold hb busy hcon k (by omega)
    have hlt : b.getD k 0 < b.getD (k + 1) 0 := by
      rw [List.pairwise_iff_getElem] at hb
      have := hb k (k + 1) (by omega) hk (by omega)
      simpa [List.getD_eq_getElem?_getD, List.getElem?_eq_getElem (show k < b.length by omega), List.getElem?_eq_getElem hk] using this
    have h0 : b.getD 0 0 ≤ b.getD k 0 := by
      rcases Nat.eq_zero_or_pos k with rfl | h
      · omega
      · rw [List.pairwise_iff_getElem] at hb
        have := hb 0 k (by omega) (by omega) h
        simp [List.getD_eq_getElem?_getD, List.getElem?_eq_getElem (show k < b.length by omega), List.getElem?_eq_getElem (show 0 < b.length by omega)]
        omega
    have hc := hcon k hk
    generalize hx : b.getD k 0 = x at *
    generalize hy : b.getD (k + 1) 0 = y at *
    generalize hz : b.getD 0 0 = z at *
    rw [wAt_succ, hx, hy]
    generalize wAt l busy b k = acc at *
    by_cases e : isBusy l x = busy
    · have hcov : ∀ i, (decide (z ≤ i) && decide (i < y) && (isBusy l i == busy)) = ((decide (z ≤ i) && decide (i < x) && (isBusy l i == busy)) || (decide (x ≤ i) && decide (i < y))) := by
        intro i
        by_cases c : x ≤ i ∧ i < y
        · have : isBusy l i = busy := (hc i c.1 c.2).trans e
          rw [this, Bool.eq_iff_iff]; simp; omega
        · cases (isBusy l i == busy) <;> (rw [Bool.eq_iff_iff]; simp; omega)
      cases acc with
      | nil =>
        have : wStep l busy [] x y = [⟨x, y⟩] := by simp [wStep, e]
        rw [this]
        refine ⟨by simpa using Can.one (p := ⟨x, y⟩) hlt, by simp, fun i => ?_⟩
        rw [hcov, ← h3, busy_cons]
        simp [busy_nil]
      | cons q r =>
        obtain ⟨c1, c2, c3⟩ := can_uncons h1
        by_cases g : q.To = x
        · have : wStep l busy (q :: r) x y = ⟨q.From, y⟩ :: r := by simp [wStep, e, g]
          rw [this]
          refine ⟨can_consR c1 (by simp; omega) c3, fun a ha => ?_, fun i => ?_⟩
          · rcases List.mem_cons.1 ha with rfl | ha
            · simp
            · have := h2 a (List.mem_cons_of_mem _ ha); omega
          · rw [hcov, ← h3, busy_cons, busy_cons]
            have : (decide (q.From ≤ i) && decide (i < y)) = ((decide (q.From ≤ i) && decide (i < q.To)) || (decide (x ≤ i) && decide (i < y))) := by
              rw [Bool.eq_iff_iff]; simp; omega
            simp only [this]
            cases (decide (q.From ≤ i) && decide (i < q.To)) <;> cases (decide (x ≤ i) && decide (i < y)) <;> cases isBusy r i <;> rfl
        · have hq := h2 q List.mem_cons_self
          have : wStep l busy (q :: r) x y = ⟨x, y⟩ :: q :: r := by simp [wStep, e, g]
          rw [this]
          refine ⟨can_consR h1 hlt (fun a ha => ?_), fun a ha => ?_, fun i => ?_⟩
          · rcases List.mem_cons.1 ha with rfl | ha
            · simp; omega
            · have := c3 a ha; simp; omega
          · rcases List.mem_cons.1 ha with rfl | ha
            · simp
            · have := h2 a ha; omega
          · rw [hcov, ← h3, busy_cons]
            cases isBusy (q :: r) i <;> simp
    · have : wStep l busy acc x y = acc := by simp [wStep, e]
      rw [this]
      refine ⟨h1, fun a ha => by have := h2 a ha; omega, fun i => ?_⟩
      rw [h3]
      by_cases c : x ≤ i ∧ i < y
      · have : (isBusy l i == busy) = false := by
          have := hc i c.1 c.2
          rw [this]; simpa using e
        rw [this]; simp
      · cases (isBusy l i == busy) <;> (rw [Bool.eq_iff_iff]; simp; try omega)
theorem getD_mem {b : List Int} {k : Nat} (h : k < b.length) : b.getD k 0 ∈ b := by
  rw [List.getD_eq_getElem?_getD, List.getElem?_eq_getElem h]; exact List.getElem_mem h
theorem getD_lt {b : List Int} (hb : b.Pairwise (· < ·)) {j k : Nat} (h : j < k) (hk : k < b.length) : b.getD j 0 < b.getD k 0 := by
  rw [List.pairwise_iff_getElem] at hb
  have := hb j k (by omega) hk h
  simpa [List.getD_eq_getElem?_getD, List.getElem?_eq_getElem (show j < b.length by omega), List.getElem?_eq_getElem hk] using this
theorem getD_of_mem {b : List Int} {x : Int} (h : x ∈ b) : ∃ k, k < b.length ∧ b.getD k 0 = x := by
  obtain ⟨k, hk, rfl⟩ := List.getElem_of_mem h
  exact ⟨k, hk, by rw [List.getD_eq_getElem?_getD, List.getElem?_eq_getElem hk]; rfl⟩
theorem no_between {b : List Int} (hb : b.Pairwise (· < ·)) {k : Nat} (hk : k + 1 < b.length) {x : Int} (hx : x ∈ b) : x ≤ b.getD k 0 ∨ b.getD (k + 1) 0 ≤ x := by
  obtain ⟨j, hj, rfl⟩ := getD_of_mem hx
  rcases Nat.lt_trichotomy j k with h | rfl | h
  · exact .inl (by have := getD_lt hb h (by omega); omega)
  · exact .inl (Int.le_refl _)
  · rcases Nat.lt_or_ge (k + 1) j with g | g
    · exact .inr (by have := getD_lt hb g hj; omega)
    · obtain rfl : j = k + 1 := by omega
      exact .inr (Int.le_refl _)
theorem within_spec (l : List Period) {f t : Int} (hft : f ≤ t) (busy : Bool) : Can (withinF l f t busy) ∧ ∀ i, isBusy (withinF l f t busy) i = (decide (f ≤ i) && decide (i < t) && (isBusy l i == busy)) := by
  obtain ⟨hb, hm⟩ := bounds_spec l f t
  have hf : f ∈ boundsF l f t := (hm f).2 ⟨by simp [endsF], by omega, hft⟩
  have ht : t ∈ boundsF l f t := (hm t).2 ⟨by simp [endsF], hft, by omega⟩
  have hl : 0 < (boundsF l f t).length := List.length_pos_of_mem hf
  have hcon : ∀ k, k + 1 < (boundsF l f t).length → ∀ i, (boundsF l f t).getD k 0 ≤ i → i < (boundsF l f t).getD (k + 1) 0 → isBusy l i = isBusy l ((boundsF l f t).getD k 0) := by
    intro k hk i h1 h2
    have hlo := (hm _).1 (getD_mem (show k < (boundsF l f t).length by omega))
    have hhi := (hm _).1 (getD_mem hk)
    have key : ∀ x, x ∈ endsF l f t → (x ≤ i ↔ x ≤ (boundsF l f t).getD k 0) := by
      intro x hx
      by_cases c : f ≤ x ∧ x ≤ t
      · rcases no_between hb hk ((hm x).2 ⟨hx, c⟩) with h | h <;> omega
      · omega
    rw [Bool.eq_iff_iff, busy_iff, busy_iff]
    have e1 : ∀ p ∈ l, p.From ∈ endsF l f t ∧ p.To ∈ endsF l f t := fun p hp => by
      simp only [endsF, List.mem_cons, List.mem_flatMap]
      exact ⟨.inr (.inr ⟨p, hp, by simp⟩), .inr (.inr ⟨p, hp, by simp⟩)⟩
    constructor
    · rintro ⟨p, hp, a, b⟩
      have := key _ (e1 p hp).1
      have := key _ (e1 p hp).2
      exact ⟨p, hp, by omega, by omega⟩
    · rintro ⟨p, hp, a, b⟩
      have := key _ (e1 p hp).1
      have := key _ (e1 p hp).2
      exact ⟨p, hp, by omega, by omega⟩
  obtain ⟨h1, _, h3⟩ := within_fold hb busy hcon ((boundsF l f t).length - 1) (by omega)
  have e0 : (boundsF l f t).getD 0 0 = f := by
    obtain ⟨k, hk, e⟩ := getD_of_mem hf
    have := ((hm _).1 (getD_mem hl)).2.1
    rcases Nat.eq_zero_or_pos k with rfl | h
    · exact e
    · have := getD_lt hb h hk; omega
  have e1 : (boundsF l f t).getD ((boundsF l f t).length - 1) 0 = t := by
    obtain ⟨k, hk, e⟩ := getD_of_mem ht
    have := ((hm _).1 (getD_mem (show (boundsF l f t).length - 1 < (boundsF l f t).length by omega))).2.2
    rcases Nat.lt_or_ge k ((boundsF l f t).length - 1) with h | h
    · have := getD_lt hb h (by omega); omega
    · obtain rfl : k = (boundsF l f t).length - 1 := by omega
      exact e
  exact ⟨h1, fun i => by rw [withinF, busy_rev, h3, e0, e1]⟩
theorem union_within {l : List Period} {f t : Int} (hu : Up l) (hft : f ≤ t) (hin : InB f t l) : unionF l = withinF l f t true := by
  obtain ⟨h1, h2⟩ := union_spec hu
  obtain ⟨h3, h4⟩ := within_spec l hft true
  refine can_ext h1 h3 (fun i => ?_)
  rw [h2, h4]
  cases hb : isBusy l i with
  | false => simp
  | true =>
    obtain ⟨p, hp, a, b⟩ := busy_iff.1 hb
    have := hin p hp
    simp; omega
theorem gaps_within {l : List Period} {f t n : Int} (hu : Up l) (hft : f ≤ t) (hn : 1 ≤ n) : gapsF l f t n = longF (withinF l f t false) n := by
  obtain ⟨h1, h2⟩ := gap_spec hu hft
  obtain ⟨h3, h4⟩ := within_spec l hft false
  rw [gaps_long hn, can_ext h1 h3 (fun i => by rw [h2, h4]; cases isBusy l i <;> rfl)]
end Go.Fw
/- Freebusy: the ends of periods in order (the reference's bounds). -/
set_option linter.unusedSimpArgs false
set_option linter.unusedVariables false
set_option maxRecDepth 20000
set_option maxHeartbeats 4000000
namespace Go.Fw
open Go Go.Proofs Go.Proofs.Ytpgnhajindbhlaa.Ty
theorem ends_succ {l : List Period} {f t : Int} {k : Nat} (h : k < l.length) : endsF (l.take (k + 1)) f t = endsF (l.take k) f t ++ [l[k].From, l[k].To] := by
  rw [take_succ h]
  simp only [endsF, List.flatMap_append, List.flatMap_cons, List.flatMap_nil, List.append_nil, List.cons_append]
theorem ends_len (l : List Period) (f t : Int) : (endsF l f t).length = 2 + 2 * l.length := by
  induction l with
  | nil => rfl
  | cons p l ih => simp only [endsF, List.flatMap_cons, List.length_cons, List.length_append, List.length_nil] at *; omega
def nextStep (last : Int) (nx x : Int) : Int := if last < x ∧ x < nx then x else nx
def nextK (all : List Int) (last t : Int) (k : Nat) : Int := (all.take k).foldl (nextStep last) (t + 1)
theorem nextK_all (all : List Int) (last t : Int) : nextK all last t all.length = nextB all last t := by
  rw [nextK, List.take_length]; rfl
theorem nextK_succ {all : List Int} {last t : Int} {k : Nat} (h : k < all.length) : nextK all last t (k + 1) = nextStep last (nextK all last t k) all[k] := by
  rw [nextK, take_succ h, List.foldl_append]; rfl
theorem bounds_c (l : List Period) (f t : Int) (hf : inst f = true) (ht : inst t = true) (hft : f ≤ t) (hb : l.length * 32 ≤ 140737488355000) :
    PCalls Try.prog 59 [.list (l.map Period.d), .v (.int .i64 f), .v (.int .i64 t)] (.d (.list ((boundsF l f t).map (dI .i64)))) := by
  simp only [inst, Bool.and_eq_true, decide_eq_true_eq] at hf ht
  refine pcalls_of_awp Try.func59 rfl (by kernel_rfl) (by simp [Try.ntmps59]) ?_
  repeat' (first | (refine awp_seq_n fun N => ?_) | ((first | refine awp_reg ?_ | refine awp_draw' (by kernel_rfl) (by kernel_rfl) (fun O Al hO hA => ?_) | refine awp_exit ?_ | refine awp_skip ?_ | refine awp_ret ?_); (simp only [go_sem, ↓reduceIte, Nat.reduceBEq, Nat.reduceLT, Nat.reduceLeDiff, Nat.reduceAdd, Nat.reduceSub, Nat.reduceMul, Nat.reduceEqDiff, Int.reduceLT, Int.reduceLE, Int.reduceAdd, Int.reduceSub, Int.reduceToNat, reduceCtorEq, Try.ntmps59, Try.results59])) | ((first | refine dGo_splitN (fun hif => ?_) (fun hif => ?_) | refine dGo_split (fun hif => ?_) (fun hif => ?_) | refine aGo_splitN (fun hif => ?_) (fun hif => ?_) | refine aGo_split (fun hif => ?_) (fun hif => ?_)) <;> (simp only [go_sem, ↓reduceIte, Nat.reduceBEq, Nat.reduceLT, Nat.reduceLeDiff, Nat.reduceAdd, Nat.reduceSub, Nat.reduceMul, Nat.reduceEqDiff, Int.reduceLT, Int.reduceLE, Int.reduceAdd, Int.reduceSub, Int.reduceToNat, reduceCtorEq, hif, Try.ntmps59, Try.results59])) | (refine awp_block ?_) | (first | refine awp_condT (by (simp only [go_sem, ↓reduceIte, Nat.reduceBEq, Nat.reduceLT, Nat.reduceLeDiff, Nat.reduceAdd, Nat.reduceSub, Nat.reduceMul, Nat.reduceEqDiff, Int.reduceLT, Int.reduceLE, Int.reduceAdd, Int.reduceSub, Int.reduceToNat, reduceCtorEq, Try.ntmps59, Try.results59]); rfl) (by first | rfl | assumption) ?_ | refine awp_condF (by (simp only [go_sem, ↓reduceIte, Nat.reduceBEq, Nat.reduceLT, Nat.reduceLeDiff, Nat.reduceAdd, Nat.reduceSub, Nat.reduceMul, Nat.reduceEqDiff, Int.reduceLT, Int.reduceLE, Int.reduceAdd, Int.reduceSub, Int.reduceToNat, reduceCtorEq, Try.ntmps59, Try.results59]); rfl) (by first | rfl | assumption) ?_) | (refine awp_cond (by (simp only [go_sem, ↓reduceIte, Nat.reduceBEq, Nat.reduceLT, Nat.reduceLeDiff, Nat.reduceAdd, Nat.reduceSub, Nat.reduceMul, Nat.reduceEqDiff, Int.reduceLT, Int.reduceLE, Int.reduceAdd, Int.reduceSub, Int.reduceToNat, reduceCtorEq, Try.ntmps59, Try.results59]); rfl) (fun hcd => ?_) (fun hcd => ?_) <;> (try (exact Bool.noConfusion hcd))) | (first | (refine goN_at 4 [0, 1, 2, 6, 7, 8] [6, 15, 33, 34] _ rfl ?_; (simp only [go_sem, ↓reduceIte, Nat.reduceBEq, Nat.reduceLT, Nat.reduceLeDiff, Nat.reduceAdd, Nat.reduceSub, Nat.reduceMul, Nat.reduceEqDiff, Int.reduceLT, Int.reduceLE, Int.reduceAdd, Int.reduceSub, Int.reduceToNat, reduceCtorEq])) | (refine goN_at 11 [2, 6, 7, 9, 10, 11, 12] [6, 9, 15, 33, 34] _ rfl ?_; (simp only [go_sem, ↓reduceIte, Nat.reduceBEq, Nat.reduceLT, Nat.reduceLeDiff, Nat.reduceAdd, Nat.reduceSub, Nat.reduceMul, Nat.reduceEqDiff, Int.reduceLT, Int.reduceLE, Int.reduceAdd, Int.reduceSub, Int.reduceToNat, reduceCtorEq])) | refine goN _ ?_) | (refine ⟨by (subst hO hA; kernel_rfl), ?_⟩) | fail)
  refine awp_loopU [0, 1, 2, 6, 7, 8] [6, 15] (fun k : Nat => [(8, .d (.v (.int .i64 k))), (7, .ref 0 15 (endsF (l.take k) f t).length)]) (fun k => [(15, .arr 1 ((endsF (l.take k) f t).map (dI .i64)))]) (fun k => k ≤ l.length) (fun k => l.length - k) 0 (by simp only [go_sem, ↓reduceIte, Nat.reduceBEq, Nat.reduceLT, Nat.reduceLeDiff, Nat.reduceAdd, Nat.reduceSub, Nat.reduceMul, Nat.reduceEqDiff, Int.reduceLT, Int.reduceLE, Int.reduceAdd, Int.reduceSub, Int.reduceToNat, reduceCtorEq]; rfl) (by simp only [go_sem, ↓reduceIte, Nat.reduceBEq, Nat.reduceLT, Nat.reduceLeDiff, Nat.reduceAdd, Nat.reduceSub, Nat.reduceMul, Nat.reduceEqDiff, Int.reduceLT, Int.reduceLE, Int.reduceAdd, Int.reduceSub, Int.reduceToNat, reduceCtorEq]; rfl) (by simp) ?_
  intro k hk
  by_cases hlt : k < l.length
  · have hs := ends_succ (f := f) (t := t) hlt
    have hel := ends_len (l.take k) f t
    rw [len_take hk] at hel
    have h16 : ((endsF (l.take k) f t).length + 2) * 8 ≤ 140737488355328 := by omega
    have h63 : (endsF (l.take k) f t).length ≤ 9223372036854775805 := by omega
    repeat' (first | (refine awp_seq_n fun N => ?_) | ((first | refine awp_reg ?_ | refine awp_draw' (by kernel_rfl) (by kernel_rfl) (fun O Al hO hA => ?_) | refine awp_exit ?_ | refine awp_skip ?_ | refine awp_ret ?_); (simp only [go_sem, ↓reduceIte, Nat.reduceBEq, Nat.reduceLT, Nat.reduceLeDiff, Nat.reduceAdd, Nat.reduceSub, Nat.reduceMul, Nat.reduceEqDiff, Int.reduceLT, Int.reduceLE, Int.reduceAdd, Int.reduceSub, Int.reduceToNat, reduceCtorEq, hlt, map_at hlt, h16, h63])) | ((first | refine dGo_splitN (fun hif => ?_) (fun hif => ?_) | refine dGo_split (fun hif => ?_) (fun hif => ?_) | refine aGo_splitN (fun hif => ?_) (fun hif => ?_) | refine aGo_split (fun hif => ?_) (fun hif => ?_)) <;> (simp only [go_sem, ↓reduceIte, Nat.reduceBEq, Nat.reduceLT, Nat.reduceLeDiff, Nat.reduceAdd, Nat.reduceSub, Nat.reduceMul, Nat.reduceEqDiff, Int.reduceLT, Int.reduceLE, Int.reduceAdd, Int.reduceSub, Int.reduceToNat, reduceCtorEq, hif, hlt, map_at hlt, h16, h63])) | (refine awp_block ?_) | (first | refine awp_condT (by (simp only [go_sem, ↓reduceIte, Nat.reduceBEq, Nat.reduceLT, Nat.reduceLeDiff, Nat.reduceAdd, Nat.reduceSub, Nat.reduceMul, Nat.reduceEqDiff, Int.reduceLT, Int.reduceLE, Int.reduceAdd, Int.reduceSub, Int.reduceToNat, reduceCtorEq, hlt, map_at hlt, h16, h63]); rfl) (by first | rfl | assumption) ?_ | refine awp_condF (by (simp only [go_sem, ↓reduceIte, Nat.reduceBEq, Nat.reduceLT, Nat.reduceLeDiff, Nat.reduceAdd, Nat.reduceSub, Nat.reduceMul, Nat.reduceEqDiff, Int.reduceLT, Int.reduceLE, Int.reduceAdd, Int.reduceSub, Int.reduceToNat, reduceCtorEq, hlt, map_at hlt, h16, h63]); rfl) (by first | rfl | assumption) ?_) | (refine awp_cond (by (simp only [go_sem, ↓reduceIte, Nat.reduceBEq, Nat.reduceLT, Nat.reduceLeDiff, Nat.reduceAdd, Nat.reduceSub, Nat.reduceMul, Nat.reduceEqDiff, Int.reduceLT, Int.reduceLE, Int.reduceAdd, Int.reduceSub, Int.reduceToNat, reduceCtorEq, hlt, map_at hlt, h16, h63]); rfl) (fun hcd => ?_) (fun hcd => ?_) <;> (try (exact Bool.noConfusion hcd))) | (first | (refine goN_at 4 [0, 1, 2, 6, 7, 8] [6, 15, 33, 34] _ rfl ?_; (simp only [go_sem, ↓reduceIte, Nat.reduceBEq, Nat.reduceLT, Nat.reduceLeDiff, Nat.reduceAdd, Nat.reduceSub, Nat.reduceMul, Nat.reduceEqDiff, Int.reduceLT, Int.reduceLE, Int.reduceAdd, Int.reduceSub, Int.reduceToNat, reduceCtorEq])) | (refine goN_at 11 [2, 6, 7, 9, 10, 11, 12] [6, 9, 15, 33, 34] _ rfl ?_; (simp only [go_sem, ↓reduceIte, Nat.reduceBEq, Nat.reduceLT, Nat.reduceLeDiff, Nat.reduceAdd, Nat.reduceSub, Nat.reduceMul, Nat.reduceEqDiff, Int.reduceLT, Int.reduceLE, Int.reduceAdd, Int.reduceSub, Int.reduceToNat, reduceCtorEq])) | refine goN _ ?_) | (refine ⟨by (subst hO hA; kernel_rfl), ?_⟩) | fail)
    exact ⟨k + 1, hlt, by rw [wrap64 (by omega) (by omega), hs, List.map_append, List.length_append]; rfl, by omega⟩
  · obtain rfl : k = l.length := by omega
    repeat' (first | (refine awp_seq_n fun N => ?_) | ((first | refine awp_reg ?_ | refine awp_draw' (by kernel_rfl) (by kernel_rfl) (fun O Al hO hA => ?_) | refine awp_exit ?_ | refine awp_skip ?_ | refine awp_ret ?_); (simp only [go_sem, ↓reduceIte, Nat.reduceBEq, Nat.reduceLT, Nat.reduceLeDiff, Nat.reduceAdd, Nat.reduceSub, Nat.reduceMul, Nat.reduceEqDiff, Int.reduceLT, Int.reduceLE, Int.reduceAdd, Int.reduceSub, Int.reduceToNat, reduceCtorEq, hlt, List.take_length])) | ((first | refine dGo_splitN (fun hif => ?_) (fun hif => ?_) | refine dGo_split (fun hif => ?_) (fun hif => ?_) | refine aGo_splitN (fun hif => ?_) (fun hif => ?_) | refine aGo_split (fun hif => ?_) (fun hif => ?_)) <;> (simp only [go_sem, ↓reduceIte, Nat.reduceBEq, Nat.reduceLT, Nat.reduceLeDiff, Nat.reduceAdd, Nat.reduceSub, Nat.reduceMul, Nat.reduceEqDiff, Int.reduceLT, Int.reduceLE, Int.reduceAdd, Int.reduceSub, Int.reduceToNat, reduceCtorEq, hif, hlt, List.take_length])) | (refine awp_block ?_) | (first | refine awp_condT (by (simp only [go_sem, ↓reduceIte, Nat.reduceBEq, Nat.reduceLT, Nat.reduceLeDiff, Nat.reduceAdd, Nat.reduceSub, Nat.reduceMul, Nat.reduceEqDiff, Int.reduceLT, Int.reduceLE, Int.reduceAdd, Int.reduceSub, Int.reduceToNat, reduceCtorEq, hlt, List.take_length]); rfl) (by first | rfl | assumption) ?_ | refine awp_condF (by (simp only [go_sem, ↓reduceIte, Nat.reduceBEq, Nat.reduceLT, Nat.reduceLeDiff, Nat.reduceAdd, Nat.reduceSub, Nat.reduceMul, Nat.reduceEqDiff, Int.reduceLT, Int.reduceLE, Int.reduceAdd, Int.reduceSub, Int.reduceToNat, reduceCtorEq, hlt, List.take_length]); rfl) (by first | rfl | assumption) ?_) | (refine awp_cond (by (simp only [go_sem, ↓reduceIte, Nat.reduceBEq, Nat.reduceLT, Nat.reduceLeDiff, Nat.reduceAdd, Nat.reduceSub, Nat.reduceMul, Nat.reduceEqDiff, Int.reduceLT, Int.reduceLE, Int.reduceAdd, Int.reduceSub, Int.reduceToNat, reduceCtorEq, hlt, List.take_length]); rfl) (fun hcd => ?_) (fun hcd => ?_) <;> (try (exact Bool.noConfusion hcd))) | (first | (refine goN_at 4 [0, 1, 2, 6, 7, 8] [6, 15, 33, 34] _ rfl ?_; (simp only [go_sem, ↓reduceIte, Nat.reduceBEq, Nat.reduceLT, Nat.reduceLeDiff, Nat.reduceAdd, Nat.reduceSub, Nat.reduceMul, Nat.reduceEqDiff, Int.reduceLT, Int.reduceLE, Int.reduceAdd, Int.reduceSub, Int.reduceToNat, reduceCtorEq])) | (refine goN_at 11 [2, 6, 7, 9, 10, 11, 12] [6, 9, 15, 33, 34] _ rfl ?_; (simp only [go_sem, ↓reduceIte, Nat.reduceBEq, Nat.reduceLT, Nat.reduceLeDiff, Nat.reduceAdd, Nat.reduceSub, Nat.reduceMul, Nat.reduceEqDiff, Int.reduceLT, Int.reduceLE, Int.reduceAdd, Int.reduceSub, Int.reduceToNat, reduceCtorEq])) | refine goN _ ?_) | (refine ⟨by (subst hO hA; kernel_rfl), ?_⟩) | fail)
    have hel := ends_len l f t
    refine awp_loopU [2, 6, 7, 9, 10] [6, 9, 15, 33, 34] (fun s : List Int × Int => [(9, .ref 0 9 s.1.length), (10, .d (.v (.int .i64 s.2)))]) (fun s => [(9, .arr 1 (s.1.map (dI .i64)))])
      (fun s => s.1 ++ boundsL (endsF l f t) t s.2 = boundsF l f t ∧ f - 1 ≤ s.2 ∧ s.2 ≤ t ∧ (s.1.length : Int) ≤ s.2 - f + 1) (fun s => (t - s.2).toNat) ([], f - 1) (by simp only [go_sem, ↓reduceIte, Nat.reduceBEq, Nat.reduceLT, Nat.reduceLeDiff, Nat.reduceAdd, Nat.reduceSub, Nat.reduceMul, Nat.reduceEqDiff, Int.reduceLT, Int.reduceLE, Int.reduceAdd, Int.reduceSub, Int.reduceToNat, reduceCtorEq]; rfl) (by simp only [go_sem, ↓reduceIte, Nat.reduceBEq, Nat.reduceLT, Nat.reduceLeDiff, Nat.reduceAdd, Nat.reduceSub, Nat.reduceMul, Nat.reduceEqDiff, Int.reduceLT, Int.reduceLE, Int.reduceAdd, Int.reduceSub, Int.reduceToNat, reduceCtorEq, wrap64 (show -9223372036854775808 ≤ f - 1 by omega) (show f - 1 ≤ 9223372036854775807 by omega)]) ⟨rfl, by omega, by omega, by simp; omega⟩ ?_
    rintro ⟨out, last⟩ ⟨h1, h2, h3, h4⟩
    simp only at h1 h2 h3 h4
    have hw1 : IntKind.i64.wrap (t + 1) = t + 1 := wrap64 (by omega) (by omega)
    repeat' (first | (refine awp_seq_n fun N => ?_) | ((first | refine awp_reg ?_ | refine awp_draw' (by kernel_rfl) (by kernel_rfl) (fun O Al hO hA => ?_) | refine awp_exit ?_ | refine awp_skip ?_ | refine awp_ret ?_); (simp only [go_sem, ↓reduceIte, Nat.reduceBEq, Nat.reduceLT, Nat.reduceLeDiff, Nat.reduceAdd, Nat.reduceSub, Nat.reduceMul, Nat.reduceEqDiff, Int.reduceLT, Int.reduceLE, Int.reduceAdd, Int.reduceSub, Int.reduceToNat, reduceCtorEq, hw1])) | ((first | refine dGo_splitN (fun hif => ?_) (fun hif => ?_) | refine dGo_split (fun hif => ?_) (fun hif => ?_) | refine aGo_splitN (fun hif => ?_) (fun hif => ?_) | refine aGo_split (fun hif => ?_) (fun hif => ?_)) <;> (simp only [go_sem, ↓reduceIte, Nat.reduceBEq, Nat.reduceLT, Nat.reduceLeDiff, Nat.reduceAdd, Nat.reduceSub, Nat.reduceMul, Nat.reduceEqDiff, Int.reduceLT, Int.reduceLE, Int.reduceAdd, Int.reduceSub, Int.reduceToNat, reduceCtorEq, hif, hw1])) | (refine awp_block ?_) | (first | refine awp_condT (by (simp only [go_sem, ↓reduceIte, Nat.reduceBEq, Nat.reduceLT, Nat.reduceLeDiff, Nat.reduceAdd, Nat.reduceSub, Nat.reduceMul, Nat.reduceEqDiff, Int.reduceLT, Int.reduceLE, Int.reduceAdd, Int.reduceSub, Int.reduceToNat, reduceCtorEq, hw1]); rfl) (by first | rfl | assumption) ?_ | refine awp_condF (by (simp only [go_sem, ↓reduceIte, Nat.reduceBEq, Nat.reduceLT, Nat.reduceLeDiff, Nat.reduceAdd, Nat.reduceSub, Nat.reduceMul, Nat.reduceEqDiff, Int.reduceLT, Int.reduceLE, Int.reduceAdd, Int.reduceSub, Int.reduceToNat, reduceCtorEq, hw1]); rfl) (by first | rfl | assumption) ?_) | (refine awp_cond (by (simp only [go_sem, ↓reduceIte, Nat.reduceBEq, Nat.reduceLT, Nat.reduceLeDiff, Nat.reduceAdd, Nat.reduceSub, Nat.reduceMul, Nat.reduceEqDiff, Int.reduceLT, Int.reduceLE, Int.reduceAdd, Int.reduceSub, Int.reduceToNat, reduceCtorEq, hw1]); rfl) (fun hcd => ?_) (fun hcd => ?_) <;> (try (exact Bool.noConfusion hcd))) | (first | (refine goN_at 4 [0, 1, 2, 6, 7, 8] [6, 15, 33, 34] _ rfl ?_; (simp only [go_sem, ↓reduceIte, Nat.reduceBEq, Nat.reduceLT, Nat.reduceLeDiff, Nat.reduceAdd, Nat.reduceSub, Nat.reduceMul, Nat.reduceEqDiff, Int.reduceLT, Int.reduceLE, Int.reduceAdd, Int.reduceSub, Int.reduceToNat, reduceCtorEq])) | (refine goN_at 11 [2, 6, 7, 9, 10, 11, 12] [6, 9, 15, 33, 34] _ rfl ?_; (simp only [go_sem, ↓reduceIte, Nat.reduceBEq, Nat.reduceLT, Nat.reduceLeDiff, Nat.reduceAdd, Nat.reduceSub, Nat.reduceMul, Nat.reduceEqDiff, Int.reduceLT, Int.reduceLE, Int.reduceAdd, Int.reduceSub, Int.reduceToNat, reduceCtorEq])) | refine goN _ ?_) | (refine ⟨by (subst hO hA; kernel_rfl), ?_⟩) | fail)
    refine awp_loopU [2, 6, 7, 9, 10, 11, 12] [6, 9, 15, 33, 34] (fun i : Nat => [(12, .d (.v (.int .i64 i))), (11, .d (.v (.int .i64 (nextK (endsF l f t) last t i))))]) (fun _ => []) (fun i => i ≤ (endsF l f t).length) (fun i => (endsF l f t).length - i) 0 (by simp only [go_sem, ↓reduceIte, Nat.reduceBEq, Nat.reduceLT, Nat.reduceLeDiff, Nat.reduceAdd, Nat.reduceSub, Nat.reduceMul, Nat.reduceEqDiff, Int.reduceLT, Int.reduceLE, Int.reduceAdd, Int.reduceSub, Int.reduceToNat, reduceCtorEq]; rfl) (by simp only [go_sem, ↓reduceIte, Nat.reduceBEq, Nat.reduceLT, Nat.reduceLeDiff, Nat.reduceAdd, Nat.reduceSub, Nat.reduceMul, Nat.reduceEqDiff, Int.reduceLT, Int.reduceLE, Int.reduceAdd, Int.reduceSub, Int.reduceToNat, reduceCtorEq]; rfl) (by simp) ?_
    intro i hi
    by_cases hil : i < (endsF l f t).length
    · have hn := nextK_succ (last := last) (t := t) hil
      repeat' (first | (refine awp_seq_n fun N => ?_) | ((first | refine awp_reg ?_ | refine awp_draw' (by kernel_rfl) (by kernel_rfl) (fun O Al hO hA => ?_) | refine awp_exit ?_ | refine awp_skip ?_ | refine awp_ret ?_); (simp only [go_sem, ↓reduceIte, Nat.reduceBEq, Nat.reduceLT, Nat.reduceLeDiff, Nat.reduceAdd, Nat.reduceSub, Nat.reduceMul, Nat.reduceEqDiff, Int.reduceLT, Int.reduceLE, Int.reduceAdd, Int.reduceSub, Int.reduceToNat, reduceCtorEq, hil, map_at hil, dI])) | ((first | refine dGo_splitN (fun hif => ?_) (fun hif => ?_) | refine dGo_split (fun hif => ?_) (fun hif => ?_) | refine aGo_splitN (fun hif => ?_) (fun hif => ?_) | refine aGo_split (fun hif => ?_) (fun hif => ?_)) <;> (simp only [go_sem, ↓reduceIte, Nat.reduceBEq, Nat.reduceLT, Nat.reduceLeDiff, Nat.reduceAdd, Nat.reduceSub, Nat.reduceMul, Nat.reduceEqDiff, Int.reduceLT, Int.reduceLE, Int.reduceAdd, Int.reduceSub, Int.reduceToNat, reduceCtorEq, hif, hil, map_at hil, dI])) | (refine awp_block ?_) | (first | refine awp_condT (by (simp only [go_sem, ↓reduceIte, Nat.reduceBEq, Nat.reduceLT, Nat.reduceLeDiff, Nat.reduceAdd, Nat.reduceSub, Nat.reduceMul, Nat.reduceEqDiff, Int.reduceLT, Int.reduceLE, Int.reduceAdd, Int.reduceSub, Int.reduceToNat, reduceCtorEq, hil, map_at hil, dI]); rfl) (by first | rfl | assumption) ?_ | refine awp_condF (by (simp only [go_sem, ↓reduceIte, Nat.reduceBEq, Nat.reduceLT, Nat.reduceLeDiff, Nat.reduceAdd, Nat.reduceSub, Nat.reduceMul, Nat.reduceEqDiff, Int.reduceLT, Int.reduceLE, Int.reduceAdd, Int.reduceSub, Int.reduceToNat, reduceCtorEq, hil, map_at hil, dI]); rfl) (by first | rfl | assumption) ?_) | (refine awp_cond (by (simp only [go_sem, ↓reduceIte, Nat.reduceBEq, Nat.reduceLT, Nat.reduceLeDiff, Nat.reduceAdd, Nat.reduceSub, Nat.reduceMul, Nat.reduceEqDiff, Int.reduceLT, Int.reduceLE, Int.reduceAdd, Int.reduceSub, Int.reduceToNat, reduceCtorEq, hil, map_at hil, dI]); rfl) (fun hcd => ?_) (fun hcd => ?_) <;> (try (exact Bool.noConfusion hcd))) | (first | (refine goN_at 4 [0, 1, 2, 6, 7, 8] [6, 15, 33, 34] _ rfl ?_; (simp only [go_sem, ↓reduceIte, Nat.reduceBEq, Nat.reduceLT, Nat.reduceLeDiff, Nat.reduceAdd, Nat.reduceSub, Nat.reduceMul, Nat.reduceEqDiff, Int.reduceLT, Int.reduceLE, Int.reduceAdd, Int.reduceSub, Int.reduceToNat, reduceCtorEq])) | (refine goN_at 11 [2, 6, 7, 9, 10, 11, 12] [6, 9, 15, 33, 34] _ rfl ?_; (simp only [go_sem, ↓reduceIte, Nat.reduceBEq, Nat.reduceLT, Nat.reduceLeDiff, Nat.reduceAdd, Nat.reduceSub, Nat.reduceMul, Nat.reduceEqDiff, Int.reduceLT, Int.reduceLE, Int.reduceAdd, Int.reduceSub, Int.reduceToNat, reduceCtorEq])) | refine goN _ ?_) | (refine ⟨by (subst hO hA; kernel_rfl), ?_⟩) | fail)
      · exact ⟨i + 1, hil, by rw [wrap64 (by omega) (by omega), hn, nextStep, if_pos ⟨of_decide_eq_true hif, of_decide_eq_true hcd⟩]; rfl, by omega⟩
      · exact ⟨i + 1, hil, by rw [wrap64 (by omega) (by omega), hn, nextStep, if_neg (fun c => of_decide_eq_false hcd c.2)]; rfl, by omega⟩
      · exact ⟨i + 1, hil, by rw [wrap64 (by omega) (by omega), hn, nextStep, if_neg (fun c => of_decide_eq_false hif c.1)]; rfl, by omega⟩
    · obtain rfl : i = (endsF l f t).length := by omega
      have h16 : (out.length + 1) * 8 ≤ 140737488355328 := by omega
      have h63 : out.length ≤ 9223372036854775806 := by omega
      have hns := nextB_spec (endsF l f t) last t
      repeat' (first | (refine awp_seq_n fun N => ?_) | ((first | refine awp_reg ?_ | refine awp_draw' (by kernel_rfl) (by kernel_rfl) (fun O Al hO hA => ?_) | refine awp_exit ?_ | refine awp_skip ?_ | refine awp_ret ?_); (simp only [go_sem, ↓reduceIte, Nat.reduceBEq, Nat.reduceLT, Nat.reduceLeDiff, Nat.reduceAdd, Nat.reduceSub, Nat.reduceMul, Nat.reduceEqDiff, Int.reduceLT, Int.reduceLE, Int.reduceAdd, Int.reduceSub, Int.reduceToNat, reduceCtorEq, hil, h16, h63, nextK_all, Try.results59])) | ((first | refine dGo_splitN (fun hif => ?_) (fun hif => ?_) | refine dGo_split (fun hif => ?_) (fun hif => ?_) | refine aGo_splitN (fun hif => ?_) (fun hif => ?_) | refine aGo_split (fun hif => ?_) (fun hif => ?_)) <;> (simp only [go_sem, ↓reduceIte, Nat.reduceBEq, Nat.reduceLT, Nat.reduceLeDiff, Nat.reduceAdd, Nat.reduceSub, Nat.reduceMul, Nat.reduceEqDiff, Int.reduceLT, Int.reduceLE, Int.reduceAdd, Int.reduceSub, Int.reduceToNat, reduceCtorEq, hif, hil, h16, h63, nextK_all, Try.results59])) | (refine awp_block ?_) | (first | refine awp_condT (by (simp only [go_sem, ↓reduceIte, Nat.reduceBEq, Nat.reduceLT, Nat.reduceLeDiff, Nat.reduceAdd, Nat.reduceSub, Nat.reduceMul, Nat.reduceEqDiff, Int.reduceLT, Int.reduceLE, Int.reduceAdd, Int.reduceSub, Int.reduceToNat, reduceCtorEq, hil, h16, h63, nextK_all, Try.results59]); rfl) (by first | rfl | assumption) ?_ | refine awp_condF (by (simp only [go_sem, ↓reduceIte, Nat.reduceBEq, Nat.reduceLT, Nat.reduceLeDiff, Nat.reduceAdd, Nat.reduceSub, Nat.reduceMul, Nat.reduceEqDiff, Int.reduceLT, Int.reduceLE, Int.reduceAdd, Int.reduceSub, Int.reduceToNat, reduceCtorEq, hil, h16, h63, nextK_all, Try.results59]); rfl) (by first | rfl | assumption) ?_) | (refine awp_cond (by (simp only [go_sem, ↓reduceIte, Nat.reduceBEq, Nat.reduceLT, Nat.reduceLeDiff, Nat.reduceAdd, Nat.reduceSub, Nat.reduceMul, Nat.reduceEqDiff, Int.reduceLT, Int.reduceLE, Int.reduceAdd, Int.reduceSub, Int.reduceToNat, reduceCtorEq, hil, h16, h63, nextK_all, Try.results59]); rfl) (fun hcd => ?_) (fun hcd => ?_) <;> (try (exact Bool.noConfusion hcd))) | (first | (refine goN_at 4 [0, 1, 2, 6, 7, 8] [6, 15, 33, 34] _ rfl ?_; (simp only [go_sem, ↓reduceIte, Nat.reduceBEq, Nat.reduceLT, Nat.reduceLeDiff, Nat.reduceAdd, Nat.reduceSub, Nat.reduceMul, Nat.reduceEqDiff, Int.reduceLT, Int.reduceLE, Int.reduceAdd, Int.reduceSub, Int.reduceToNat, reduceCtorEq])) | (refine goN_at 11 [2, 6, 7, 9, 10, 11, 12] [6, 9, 15, 33, 34] _ rfl ?_; (simp only [go_sem, ↓reduceIte, Nat.reduceBEq, Nat.reduceLT, Nat.reduceLeDiff, Nat.reduceAdd, Nat.reduceSub, Nat.reduceMul, Nat.reduceEqDiff, Int.reduceLT, Int.reduceLE, Int.reduceAdd, Int.reduceSub, Int.reduceToNat, reduceCtorEq])) | refine goN _ ?_) | (refine ⟨by (subst hO hA; kernel_rfl), ?_⟩) | fail)
      · rw [← h1, boundsL_stop (by have := of_decide_eq_true hcd; omega), List.append_nil]
      · have hle : nextB (endsF l f t) last t ≤ t := by have := of_decide_eq_false hcd; omega
        have hgt : last < nextB (endsF l f t) last t := by omega
        refine ⟨(out ++ [nextB (endsF l f t) last t], nextB (endsF l f t) last t), ⟨?_, by omega, by omega, by simp; omega⟩, ?_, by omega⟩
        · rw [← h1, boundsL_go hle, List.append_assoc]; rfl
        · rw [List.map_append, List.length_append]; rfl
end Go.Fw
