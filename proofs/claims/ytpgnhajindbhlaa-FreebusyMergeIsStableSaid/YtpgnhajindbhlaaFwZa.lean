/- Lists and numbers for the laws of loops. -/
import Derived.Test.YtpgnhajindbhlaaFwZ
set_option autoImplicit false
namespace Go.Fw
theorem wrap64 {z : Int} (h : -9223372036854775808 ≤ z) (k : z ≤ 9223372036854775807) : IntKind.i64.wrap z = z := by
  simp [IntKind.wrap, IntKind.bits, IntKind.signed]
  omega
def idxF (p : DVal → Bool) (xs : List DVal) : Int := match xs.findIdx? p with | some i => i | none => -1
theorem idxF_found {p : DVal → Bool} {xs : List DVal} {k : Nat} (hk : k < xs.length) (hs : p xs[k] = true) (hne : ∀ j, j < k → ∀ h : j < xs.length, p xs[j] = false) : idxF p xs = k := by
  have : xs.findIdx? p = some k := by
    rw [List.findIdx?_eq_some_iff_getElem]
    exact ⟨hk, hs, fun j hj => by simpa using hne j hj (by omega)⟩
  simp [idxF, this]
theorem idxF_none {p : DVal → Bool} {xs : List DVal} (hne : ∀ j, ∀ h : j < xs.length, p xs[j] = false) : idxF p xs = -1 := by
  have : xs.findIdx? p = none := by
    rw [List.findIdx?_eq_none_iff]
    intro x hx
    obtain ⟨j, hj, rfl⟩ := List.getElem_of_mem hx
    exact hne j hj
  simp [idxF, this]
theorem idxF_any (p : DVal → Bool) (xs : List DVal) : decide (0 ≤ idxF p xs) = xs.any p := by
  unfold idxF
  cases h : xs.findIdx? p with
  | none =>
    rw [List.findIdx?_eq_none_iff] at h
    have : xs.any p = false := by
      rw [List.any_eq_false]
      intro x hx
      simpa using h x hx
    rw [this]; rfl
  | some i =>
    rw [List.findIdx?_eq_some_iff_getElem] at h
    obtain ⟨h1, h2, _⟩ := h
    have : xs.any p = true := by
      rw [List.any_eq_true]
      exact ⟨_, List.getElem_mem h1, h2⟩
    rw [this]
    simp
def firstF {α : Type} (n : Nat) (f : Nat → Option α) (d : α) : α := ((List.range n).findSome? f).getD d
theorem firstF_at {α : Type} {n k : Nat} {f : Nat → Option α} {d r : α} (hk : k < n) (h : f k = some r) (hne : ∀ j, j < k → f j = none) : firstF n f d = r := by
  have : (List.range n).findSome? f = some r := by
    rw [List.findSome?_eq_some_iff]
    refine ⟨List.range k, k, (List.range' (k + 1) (n - k - 1)), ?_, h, fun j hj => hne j (List.mem_range.1 hj)⟩
    rw [List.range_eq_range', List.range_eq_range', ← List.range'_succ, show n - k - 1 + 1 = n - k by omega]
    have := List.range'_append_1 (s := 0) (m := k) (n := n - k)
    rw [show k + (n - k) = n by omega, Nat.zero_add] at this
    exact this.symm
  simp [firstF, this]
theorem firstF_none {α : Type} {n : Nat} {f : Nat → Option α} {d : α} (hne : ∀ j, j < n → f j = none) : firstF n f d = d := by
  have : (List.range n).findSome? f = none := by
    rw [List.findSome?_eq_none_iff]
    exact fun j hj => hne j (List.mem_range.1 hj)
  simp [firstF, this]
theorem nn_succ {α : Type} {f : Nat → Option α} {k : Nat} (h : ∀ j, j < k → f j = none) (hk : f k = none) : ∀ j, j < k + 1 → f j = none := fun j hj => by
  rcases Nat.lt_or_ge j k with h' | h'
  · exact h j h'
  · obtain rfl : j = k := by omega
    exact hk
theorem map_at {α β : Type} {f : α → β} {l : List α} {k : Nat} (h : k < l.length) : (l.map f)[k]? = some (f l[k]) := by simp [h]
theorem allLen_map {α : Type} {f : α → DVal} {n : Nat} (h : ∀ x, (f x).cells.length = n) (l : List α) : allLen n (l.map f) = true := allLen_iff.2 fun y hy => by
  obtain ⟨x, _, rfl⟩ := List.mem_map.1 hy
  exact h x
@[go_sem] theorem allLen_nil (n : Nat) : allLen n [] = true := rfl
@[go_sem] theorem allLen_cons (n : Nat) (y : DVal) (ys : List DVal) : allLen n (y :: ys) = ((y.cells.length == n) && allLen n ys) := by
  unfold allLen
  rw [List.all_cons, nbeq]
theorem len_take {α : Type} {l : List α} {k : Nat} (h : k ≤ l.length) : (l.take k).length = k := by simp [h]
theorem take_succ {α : Type} {l : List α} {k : Nat} (h : k < l.length) : l.take (k + 1) = l.take k ++ [l[k]] := by simp
@[go_sem] theorem take_map {α β : Type} (f : α → β) (l : List α) (k : Nat) : (l.map f).take k = (l.take k).map f := List.map_take.symm
@[go_sem] theorem drop_map {α β : Type} (f : α → β) (l : List α) (k : Nat) : (l.map f).drop k = (l.drop k).map f := List.map_drop.symm
@[go_sem] theorem purge_dead0 (a b : Nat) : Hp.purge (fun _ _ => AObj.dead) a b = fun _ _ => .dead := rfl
@[go_sem] theorem hpL_purge1 (lev : Nat) (os os' : List (Nat × AObj)) (H : Hp) (a b : Nat) : hpL lev os ((hpL lev os' H).purge a b) = hpL lev os (H.purge a b) := by
  funext l t
  unfold hpL Hp.purge
  cases h : l == lev <;> simp [h]
@[go_sem] theorem hpL_purge2 (lev : Nat) (os os' : List (Nat × AObj)) (H : Hp) (a b c d : Nat) : hpL lev os (((hpL lev os' H).purge a b).purge c d) = hpL lev os ((H.purge a b).purge c d) := by
  funext l t
  unfold hpL Hp.purge
  cases h : l == lev <;> simp [h]
def resWB (P : Program) (lev : Nat) (σ : St) (t off : Nat) (r : List ResultVar) : AObj → Option (List AVal × St)
  | .box cs => (szOf P t).bind fun n => (aggOf P t).bind fun g => (ldCells g n σ (cs.drop off)).bind fun y => (frzR lev y.2 y.1).bind fun p => (resW P lev p.2 r).map fun q => (p.1 :: q.1, q.2)
  | _ => none
def resWC (P : Program) (lev : Nat) (σ : St) (t : Nat) (r : List ResultVar) : AVal → Option (List AVal × St)
  | .ptr l s off => resWB P lev σ t off r (σ.H l s)
  | _ => none
@[go_sem] theorem resW_cell (P : Program) (lev : Nat) (σ : St) (a t : Nat) (r : List ResultVar) : resW P lev σ (.cell a t :: r) = resWC P lev σ t r (lk σ.T a) := by
  simp only [resW]
  cases lk σ.T a <;> simp only [resWC]
  rename_i l s off
  cases σ.H l s <;> rfl
@[go_sem] theorem resWC_ptr (P : Program) (lev : Nat) (σ : St) (t : Nat) (r : List ResultVar) (l s off : Nat) : resWC P lev σ t r (.ptr l s off) = resWB P lev σ t off r (σ.H l s) := rfl
@[go_sem] theorem resWB_box (P : Program) (lev : Nat) (σ : St) (t off : Nat) (r : List ResultVar) (cs : List AVal) : resWB P lev σ t off r (.box cs) = (szOf P t).bind fun n => (aggOf P t).bind fun g => (ldCells g n σ (cs.drop off)).bind fun y => (frzR lev y.2 y.1).bind fun p => (resW P lev p.2 r).map fun q => (p.1 :: q.1, q.2) := rfl
@[go_sem] theorem frzM_t (m : List Bool) (σ : St) (x : AVal) (r : List AVal) : frzM (true :: m) σ (x :: r) = (frzV σ x).bind fun p => (frzM m p.2 r).map fun q => (.d p.1 :: q.1, q.2) := rfl
@[go_sem] theorem frzM_f (m : List Bool) (σ : St) (x : AVal) (r : List AVal) : frzM (false :: m) σ (x :: r) = (frzM m σ r).map fun q => (x :: q.1, q.2) := rfl
@[go_sem] theorem frzM_0 (σ : St) (x : AVal) (r : List AVal) : frzM [] σ (x :: r) = some (x :: r, σ) := rfl
@[go_sem] theorem frzM_e (m : List Bool) (σ : St) : frzM m σ [] = some ([], σ) := by cases m with | nil => rfl | cons b m => cases b <;> rfl
@[go_sem] theorem max_int (P : Program) (ts : Array TypeId) (ty : TypeId) (cs : Array Bool) (a b : Int) : builtinV P .max ts ty cs [.int .i64 a, .int .i64 b] = some (.int .i64 (max a b)) := by
  have e : (if b > a then b else a) = max a b := by split <;> omega
  have : pr P (builtin .max ts ty cs ⟨[.int .i64 a, .int .i64 b]⟩) = some (.value (.int .i64 (max a b))) := pr_of fun w => by
    rw [← e]
    simp [builtin, Builtin.max_, Builtin.max2]
  unfold builtinV
  rw [this]; rfl
@[go_sem] theorem min_int (P : Program) (ts : Array TypeId) (ty : TypeId) (cs : Array Bool) (a b : Int) : builtinV P .min ts ty cs [.int .i64 a, .int .i64 b] = some (.int .i64 (min a b)) := by
  have e : (if b < a then b else a) = min a b := by split <;> omega
  have : pr P (builtin .min ts ty cs ⟨[.int .i64 a, .int .i64 b]⟩) = some (.value (.int .i64 (min a b))) := pr_of fun w => by
    rw [← e]
    simp [builtin, Builtin.min_, Builtin.min2]
  unfold builtinV
  rw [this]; rfl
attribute [go_sem] Option.map_some Bool.true_or Bool.or_true Bool.false_or Bool.or_false Bool.false_eq_true Bool.true_eq_false decide_true decide_false and_self List.length_map Int.toNat_natCast Int.ofNat_lt Int.ofNat_le Nat.sub_zero
end Go.Fw
