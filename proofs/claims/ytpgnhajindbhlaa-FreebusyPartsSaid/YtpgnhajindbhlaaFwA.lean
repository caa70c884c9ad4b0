/- Abstract values for Go calls: data without memory, references to a frame's own objects, and what concrete values they stand for. -/
import Derived.Below
import Derived.Deep.MidRow
import Derived.Calls
import Derived.Laws.Sem
import Derived.Laws.World
set_option autoImplicit false
namespace Go.Fw
/-- Data: numbers, texts, slices that nobody writes any more, structs (cells side by side). -/
inductive DVal where
  | v (x : Value)
  | list (xs : List DVal)
  | agg (cs : List DVal)
instance : Inhabited DVal := ⟨.agg []⟩
def DVal.cells : DVal → List DVal
  | .agg cs => cs
  | x => [x]
/-- Abstract values. -/
inductive AVal where
  | any
  | nils
  | d (x : DVal)
  | tup (xs : List AVal)
  | ptr (l t off : Nat)
  | ref (l t n : Nat)
  | elt (l t n i j : Nat)
  | cptr (cs : List DVal)
  | clo (f : FuncId) (caps : List AVal)
instance : Inhabited AVal := ⟨.any⟩

inductive Rd (bad : Nat → Prop) (w : World) : DVal → Value → Prop
  | v {x : Value} (h : x.oneCell' = true) : Rd bad w (.v x) x
  | agg {cs : List DVal} {vs : List Value} (hl : vs.length = cs.length) (h1 : ∀ (j : Nat) (x : Value), vs[j]? = some x → x.oneCell' = true)
      (h : ∀ (j : Nat) (c : DVal) (x : Value), cs[j]? = some c → vs[j]? = some x → Rd bad w c x) : Rd bad w (.agg cs) (.agg ⟨vs⟩)
  | list {xs : List DVal} {a : Option Addr} {cap sz b o : Nat} {f : Nat → Value} (hs : ∀ x ∈ xs, x.cells.length = sz) (hc : xs.length ≤ cap)
      (hw : ∀ j, j < (xs.flatMap DVal.cells).length → ¬ bad b ∧ w.cell? ⟨b, o + j, none⟩ = some (f j))
      (h1 : ∀ j, j < (xs.flatMap DVal.cells).length → (f j).oneCell' = true)
      (h : ∀ (j : Nat) (c : DVal), (xs.flatMap DVal.cells)[j]? = some c → Rd bad w c (f j))
      (ha : xs ≠ [] → a = some ⟨b, o, none⟩) : Rd bad w (.list xs) (.slice a xs.length cap)

/-- Where the objects lie: level, slot, length ↦ base, capacity, cells an element. -/
abbrev Kt := Nat → Nat → Nat → Option (Option Addr × Nat × Nat)

inductive Rv (bad : Nat → Prop) (K : Kt) (w : World) : AVal → Value → Prop
  | any {x : Value} : Rv bad K w .any x
  | nils : Rv bad K w .nils (.slice none 0 0)
  | d {x : DVal} {v : Value} (h : Rd bad w x v) : Rv bad K w (.d x) v
  | tup {xs : List AVal} {vs : List Value} (hl : vs.length = xs.length)
      (h : ∀ (j : Nat) (c : AVal) (x : Value), xs[j]? = some c → vs[j]? = some x → Rv bad K w c x) : Rv bad K w (.tup xs) (.tuple ⟨vs⟩)
  | ptr {l t off b cap sz : Nat} (hk : K l t 0 = some (some ⟨b, 0, none⟩, cap, sz)) : Rv bad K w (.ptr l t off) (.pointer (some ⟨b, off, none⟩))
  | ref {l t n cap sz : Nat} {a : Option Addr} (hk : K l t n = some (a, cap, sz)) : Rv bad K w (.ref l t n) (.slice a n cap)
  | elt {l t n i j cap sz b o : Nat} (hk : K l t n = some (some ⟨b, o, none⟩, cap, sz)) : Rv bad K w (.elt l t n i j) (.pointer (some ⟨b, o + i * sz + j, none⟩))
  | cptr {cs : List DVal} {b o : Nat} {f : Nat → Value} (hw : ∀ j, j < cs.length → ¬ bad b ∧ w.cell? ⟨b, o + j, none⟩ = some (f j)) (h1 : ∀ j, j < cs.length → (f j).oneCell' = true)
      (h : ∀ (j : Nat) (c : DVal), cs[j]? = some c → Rd bad w c (f j)) : Rv bad K w (.cptr cs) (.pointer (some ⟨b, o, none⟩))
  | clo {f : FuncId} {xs : List AVal} {vs : List Value} (hl : vs.length = xs.length)
      (h : ∀ (j : Nat) (c : AVal) (x : Value), xs[j]? = some c → vs[j]? = some x → Rv bad K w c x) : Rv bad K w (.clo f xs) (.func (.func f) #[] ⟨vs⟩)

/-- What is good data stays: blocks that aren't bad are as they were, and don't turn bad. -/
def Keeps (bad : Nat → Prop) (w : World) (bad' : Nat → Prop) (w' : World) : Prop :=
  ∀ b, b < w.heap.size → ¬ bad b → ¬ bad' b ∧ w'.heap[b]? = w.heap[b]?

theorem Keeps.cell {bad bad' : Nat → Prop} {w w' : World} (h : Keeps bad w bad' w') {b o : Nat} {u : Value} (hb : ¬ bad b) (hc : w.cell? ⟨b, o, none⟩ = some u) :
    ¬ bad' b ∧ w'.cell? ⟨b, o, none⟩ = some u := by
  have hlt := World.block_lt_of_cell? w _ hc
  obtain ⟨h1, h2⟩ := h b hlt hb
  refine ⟨h1, ?_⟩
  rw [← hc]
  unfold World.cell?
  rw [h2]

theorem Rd.mono {bad bad' : Nat → Prop} {w w' : World} (hk : Keeps bad w bad' w') {x : DVal} {v : Value} (h : Rd bad w x v) : Rd bad' w' x v := by
  induction h with
  | v h => exact .v h
  | agg hl h1 h ih => exact .agg hl h1 ih
  | list hs hc hw h1 h ha ih => exact .list hs hc (fun j hj => hk.cell (hw j hj).1 (hw j hj).2) h1 ih ha

/- References to one slot are forgotten. -/
mutual
def AVal.purge (l t : Nat) : AVal → AVal
  | .ptr l' t' off => bif l' == l && t' == t then .any else .ptr l' t' off
  | .ref l' t' n => bif l' == l && t' == t then .any else .ref l' t' n
  | .elt l' t' n i j => bif l' == l && t' == t then .any else .elt l' t' n i j
  | .tup xs => .tup (AVal.purgeL l t xs)
  | .clo f xs => .clo f (AVal.purgeL l t xs)
  | .any => .any
  | .nils => .nils
  | .d x => .d x
  | .cptr cs => .cptr cs
def AVal.purgeL (l t : Nat) : List AVal → List AVal
  | [] => []
  | x :: xs => AVal.purge l t x :: AVal.purgeL l t xs
end
theorem AVal.purgeL_eq (l t : Nat) : ∀ xs, AVal.purgeL l t xs = xs.map (AVal.purge l t)
  | [] => by simp [AVal.purgeL]
  | x :: xs => by simp [AVal.purgeL, AVal.purgeL_eq l t xs]

theorem Rv.mono {bad bad' : Nat → Prop} {K K' : Kt} {w w' : World} (hk : Keeps bad w bad' w') (hK : ∀ l t n z, K l t n = some z → K' l t n = some z) {x : AVal} {v : Value} (h : Rv bad K w x v) : Rv bad' K' w' x v := by
  induction h with
  | any => exact .any
  | nils => exact .nils
  | d h => exact .d (h.mono hk)
  | tup hl h ih => exact .tup hl ih
  | ptr h => exact .ptr (hK _ _ _ _ h)
  | ref h => exact .ref (hK _ _ _ _ h)
  | elt h => exact .elt (hK _ _ _ _ h)
  | cptr hw h1 h => exact .cptr (fun j hj => hk.cell (hw j hj).1 (hw j hj).2) h1 (fun j c hc => (h j c hc).mono hk)
  | clo hl h ih => exact .clo hl ih

theorem Rv.purge {bad bad' : Nat → Prop} {K K' : Kt} {w w' : World} (hk : Keeps bad w bad' w') {l0 t0 : Nat} (hK : ∀ l t n z, ¬ (l = l0 ∧ t = t0) → K l t n = some z → K' l t n = some z) {x : AVal} {v : Value} (h : Rv bad K w x v) :
    Rv bad' K' w' (x.purge l0 t0) v := by
  induction h with
  | any => simp only [AVal.purge]; exact .any
  | nils => simp only [AVal.purge]; exact .nils
  | d h => simp only [AVal.purge]; exact .d (h.mono hk)
  | tup hl h ih =>
    simp only [AVal.purge, AVal.purgeL_eq]
    refine .tup (by simpa using hl) (fun j c x hc hx => ?_)
    rw [List.getElem?_map] at hc
    obtain ⟨c0, hc0, rfl⟩ := Option.map_eq_some_iff.1 hc
    exact ih j c0 x hc0 hx
  | ptr h =>
    rename_i l t off b cap sz
    simp only [AVal.purge]
    by_cases e : l = l0 ∧ t = t0
    · obtain ⟨rfl, rfl⟩ := e
      simp only [BEq.rfl, Bool.and_self, cond_true]
      exact .any
    · have : (l == l0 && t == t0) = false := by simpa using e
      rw [this]
      exact .ptr (hK _ _ _ _ e h)
  | ref h =>
    rename_i l t n cap sz a
    simp only [AVal.purge]
    by_cases e : l = l0 ∧ t = t0
    · obtain ⟨rfl, rfl⟩ := e
      simp only [BEq.rfl, Bool.and_self, cond_true]
      exact .any
    · have : (l == l0 && t == t0) = false := by simpa using e
      rw [this]
      exact .ref (hK _ _ _ _ e h)
  | elt h =>
    rename_i l t n i j cap sz b o
    simp only [AVal.purge]
    by_cases e : l = l0 ∧ t = t0
    · obtain ⟨rfl, rfl⟩ := e
      simp only [BEq.rfl, Bool.and_self, cond_true]
      exact .any
    · have : (l == l0 && t == t0) = false := by simpa using e
      rw [this]
      exact .elt (hK _ _ _ _ e h)
  | cptr hw h1 h => simp only [AVal.purge]; exact .cptr (fun j hj => hk.cell (hw j hj).1 (hw j hj).2) h1 (fun j c hc => (h j c hc).mono hk)
  | clo hl h ih =>
    simp only [AVal.purge, AVal.purgeL_eq]
    refine .clo (by simpa using hl) (fun j c x hc hx => ?_)
    rw [List.getElem?_map] at hc
    obtain ⟨c0, hc0, rfl⟩ := Option.map_eq_some_iff.1 hc
    exact ih j c0 x hc0 hx
end Go.Fw
