/- The framework and the contracts of this claim, part 1 of 5. -/
import Derived.Shelf.Spec.SlicesGrow
import Derived.Below
import Derived.Deep.MidRow
import Derived.Calls
import Derived.Laws.Sem
import Derived.Laws.World
import Derived.Laws.BitsLemmas
import Derived.Laws.CopyRow
import Derived.Laws.AppendOwn
import Derived.Laws.Tables
import Derived.Great.FillDense
import Derived.Laws.MakeOwn
import Derived.Laws.IdiomStrings
import Derived.Laws.Slices
import Derived.Attr
import Derived.Laws.StructEq
import Derived.Orders
import Derived.Test.YtpgnhajindbhlaaRows
import Derived.ChangeArms
import Derived.DataReads
import Derived.Deep.Slices
import Derived.SizedLaws
import Derived.WalkKit
import Derived.ProofKit
import Derived.OpenShut
import Derived.ShutString
import Derived.ChangeOld
import Derived.WideShapes
import Derived.JoinedCond
import Derived.Deep.CondSized
import Derived.Test.YtpgnhajindbhlaaProg
import Derived.KernelRfl
import Derived.Shelf.SlSortCmp.NoneTotal
/- Abstract values for Go calls: data without memory, references to a frame's own objects, and what concrete values they stand for. -/
set_option autoImplicit false
namespace Go.Fw
/-- Data: numbers, texts, slices that nobody writes any more, structs (cells side by side). -/
inductive DVal where
  | v (x : Value)
  | list (xs : List DVal)
  | agg (cs : List DVal)
instance : Inhabited DVal := ⟨.agg []⟩
def DVal.cells : DVal → List DVal
  | .agg cs => cs
  | x => [x]
/-- Abstract values. -/
inductive AVal where
  | any
  | nils
  | d (x : DVal)
  | tup (xs : List AVal)
  | ptr (l t off : Nat)
  | ref (l t n : Nat)
  | elt (l t n i j : Nat)
  | cptr (cs : List DVal)
  | clo (f : FuncId) (caps : List AVal)
instance : Inhabited AVal := ⟨.any⟩

inductive Rd (bad : Nat → Prop) (w : World) : DVal → Value → Prop
  | v {x : Value} (h : x.oneCell' = true) : Rd bad w (.v x) x
  | agg {cs : List DVal} {vs : List Value} (hl : vs.length = cs.length) (h1 : ∀ (j : Nat) (x : Value), vs[j]? = some x → x.oneCell' = true)
      (h : ∀ (j : Nat) (c : DVal) (x : Value), cs[j]? = some c → vs[j]? = some x → Rd bad w c x) : Rd bad w (.agg cs) (.agg ⟨vs⟩)
  | list {xs : List DVal} {a : Option Addr} {cap sz b o : Nat} {f : Nat → Value} (hs : ∀ x ∈ xs, x.cells.length = sz) (hc : xs.length ≤ cap)
      (hw : ∀ j, j < (xs.flatMap DVal.cells).length → ¬ bad b ∧ w.cell? ⟨b, o + j, none⟩ = some (f j))
      (h1 : ∀ j, j < (xs.flatMap DVal.cells).length → (f j).oneCell' = true)
      (h : ∀ (j : Nat) (c : DVal), (xs.flatMap DVal.cells)[j]? = some c → Rd bad w c (f j))
      (ha : xs ≠ [] → a = some ⟨b, o, none⟩) : Rd bad w (.list xs) (.slice a xs.length cap)

/-- Where the objects lie: level, slot, length ↦ base, capacity, cells an element. -/
abbrev Kt := Nat → Nat → Nat → Option (Option Addr × Nat × Nat)

inductive Rv (bad : Nat → Prop) (K : Kt) (w : World) : AVal → Value → Prop
  | any {x : Value} : Rv bad K w .any x
  | nils : Rv bad K w .nils (.slice none 0 0)
  | d {x : DVal} {v : Value} (h : Rd bad w x v) : Rv bad K w (.d x) v
  | tup {xs : List AVal} {vs : List Value} (hl : vs.length = xs.length)
      (h : ∀ (j : Nat) (c : AVal) (x : Value), xs[j]? = some c → vs[j]? = some x → Rv bad K w c x) : Rv bad K w (.tup xs) (.tuple ⟨vs⟩)
  | ptr {l t off b cap sz : Nat} (hk : K l t 0 = some (some ⟨b, 0, none⟩, cap, sz)) : Rv bad K w (.ptr l t off) (.pointer (some ⟨b, off, none⟩))
  | ref {l t n cap sz : Nat} {a : Option Addr} (hk : K l t n = some (a, cap, sz)) : Rv bad K w (.ref l t n) (.slice a n cap)
  | elt {l t n i j cap sz b o : Nat} (hk : K l t n = some (some ⟨b, o, none⟩, cap, sz)) : Rv bad K w (.elt l t n i j) (.pointer (some ⟨b, o + i * sz + j, none⟩))
  | cptr {cs : List DVal} {b o : Nat} {f : Nat → Value} (hw : ∀ j, j < cs.length → ¬ bad b ∧ w.cell? ⟨b, o + j, none⟩ = some (f j)) (h1 : ∀ j, j < cs.length → (f j).oneCell' = true)
      (h : ∀ (j : Nat) (c : DVal), cs[j]? = some c → Rd bad w c (f j)) : Rv bad K w (.cptr cs) (.pointer (some ⟨b, o, none⟩))
  | clo {f : FuncId} {xs : List AVal} {vs : List Value} (hl : vs.length = xs.length)
      (h : ∀ (j : Nat) (c : AVal) (x : Value), xs[j]? = some c → vs[j]? = some x → Rv bad K w c x) : Rv bad K w (.clo f xs) (.func (.func f) #[] ⟨vs⟩)

/-- What is good data stays: blocks that aren't bad are as they were, and don't turn bad. -/
def Keeps (bad : Nat → Prop) (w : World) (bad' : Nat → Prop) (w' : World) : Prop :=
  ∀ b, b < w.heap.size → ¬ bad b → ¬ bad' b ∧ w'.heap[b]? = w.heap[b]?

theorem Keeps.cell {bad bad' : Nat → Prop} {w w' : World} (h : Keeps bad w bad' w') {b o : Nat} {u : Value} (hb : ¬ bad b) (hc : w.cell? ⟨b, o, none⟩ = some u) :
    ¬ bad' b ∧ w'.cell? ⟨b, o, none⟩ = some u := by
  have hlt := World.block_lt_of_cell? w _ hc
  obtain ⟨h1, h2⟩ := h b hlt hb
  refine ⟨h1, ?_⟩
  rw [← hc]
  unfold World.cell?
  rw [h2]

theorem Rd.mono {bad bad' : Nat → Prop} {w w' : World} (hk : Keeps bad w bad' w') {x : DVal} {v : Value} (h : Rd bad w x v) : Rd bad' w' x v := by
  induction h with
  | v h => exact .v h
  | agg hl h1 h ih => exact .agg hl h1 ih
  | list hs hc hw h1 h ha ih => exact .list hs hc (fun j hj => hk.cell (hw j hj).1 (hw j hj).2) h1 ih ha

/- References to one slot are forgotten. -/
mutual
def AVal.purge (l t : Nat) : AVal → AVal
  | .ptr l' t' off => bif l' == l && t' == t then .any else .ptr l' t' off
  | .ref l' t' n => bif l' == l && t' == t then .any else .ref l' t' n
  | .elt l' t' n i j => bif l' == l && t' == t then .any else .elt l' t' n i j
  | .tup xs => .tup (AVal.purgeL l t xs)
  | .clo f xs => .clo f (AVal.purgeL l t xs)
  | .any => .any
  | .nils => .nils
  | .d x => .d x
  | .cptr cs => .cptr cs
def AVal.purgeL (l t : Nat) : List AVal → List AVal
  | [] => []
  | x :: xs => AVal.purge l t x :: AVal.purgeL l t xs
end
theorem AVal.purgeL_eq (l t : Nat) : ∀ xs, AVal.purgeL l t xs = xs.map (AVal.purge l t)
  | [] => by simp [AVal.purgeL]
  | x :: xs => by simp [AVal.purgeL, AVal.purgeL_eq l t xs]

theorem Rv.mono {bad bad' : Nat → Prop} {K K' : Kt} {w w' : World} (hk : Keeps bad w bad' w') (hK : ∀ l t n z, K l t n = some z → K' l t n = some z) {x : AVal} {v : Value} (h : Rv bad K w x v) : Rv bad' K' w' x v := by
  induction h with
  | any => exact .any
  | nils => exact .nils
  | d h => exact .d (h.mono hk)
  | tup hl h ih => exact .tup hl ih
  | ptr h => exact .ptr (hK _ _ _ _ h)
  | ref h => exact .ref (hK _ _ _ _ h)
  | elt h => exact .elt (hK _ _ _ _ h)
  | cptr hw h1 h => exact .cptr (fun j hj => hk.cell (hw j hj).1 (hw j hj).2) h1 (fun j c hc => (h j c hc).mono hk)
  | clo hl h ih => exact .clo hl ih

theorem Rv.purge {bad bad' : Nat → Prop} {K K' : Kt} {w w' : World} (hk : Keeps bad w bad' w') {l0 t0 : Nat} (hK : ∀ l t n z, ¬ (l = l0 ∧ t = t0) → K l t n = some z → K' l t n = some z) {x : AVal} {v : Value} (h : Rv bad K w x v) :
    Rv bad' K' w' (x.purge l0 t0) v := by
  induction h with
  | any => simp only [AVal.purge]; exact .any
  | nils => simp only [AVal.purge]; exact .nils
  | d h => simp only [AVal.purge]; exact .d (h.mono hk)
  | tup hl h ih =>
    simp only [AVal.purge, AVal.purgeL_eq]
    refine .tup (by simpa using hl) (fun j c x hc hx => ?_)
    rw [List.getElem?_map] at hc
    obtain ⟨c0, hc0, rfl⟩ := Option.map_eq_some_iff.1 hc
    exact ih j c0 x hc0 hx
  | ptr h =>
    rename_i l t off b cap sz
    simp only [AVal.purge]
    by_cases e : l = l0 ∧ t = t0
    · obtain ⟨rfl, rfl⟩ := e
      simp only [BEq.rfl, Bool.and_self, cond_true]
      exact .any
    · have : (l == l0 && t == t0) = false := by simpa using e
      rw [this]
      exact .ptr (hK _ _ _ _ e h)
  | ref h =>
    rename_i l t n cap sz a
    simp only [AVal.purge]
    by_cases e : l = l0 ∧ t = t0
    · obtain ⟨rfl, rfl⟩ := e
      simp only [BEq.rfl, Bool.and_self, cond_true]
      exact .any
    · have : (l == l0 && t == t0) = false := by simpa using e
      rw [this]
      exact .ref (hK _ _ _ _ e h)
  | elt h =>
    rename_i l t n i j cap sz b o
    simp only [AVal.purge]
    by_cases e : l = l0 ∧ t = t0
    · obtain ⟨rfl, rfl⟩ := e
      simp only [BEq.rfl, Bool.and_self, cond_true]
      exact .any
    · have : (l == l0 && t == t0) = false := by simpa using e
      rw [this]
      exact .elt (hK _ _ _ _ e h)
  | cptr hw h1 h => simp only [AVal.purge]; exact .cptr (fun j hj => hk.cell (hw j hj).1 (hw j hj).2) h1 (fun j c hc => (h j c hc).mono hk)
  | clo hl h ih =>
    simp only [AVal.purge, AVal.purgeL_eq]
    refine .clo (by simpa using hl) (fun j c x hc hx => ?_)
    rw [List.getElem?_map] at hc
    obtain ⟨c0, hc0, rfl⟩ := Option.map_eq_some_iff.1 hc
    exact ih j c0 x hc0 hx
end Go.Fw
/- States of a frame, and what concrete states they stand for; how they may change. -/
set_option autoImplicit false
namespace Go.Fw
/-- A frame's objects. -/
inductive AObj where
  | dead
  | box (cs : List AVal)
  | arr (sz : Nat) (xs : List DVal)
  | frz (xs : List DVal)
abbrev Hp := Nat → Nat → AObj
def Hp.set (H : Hp) (l t : Nat) (o : AObj) : Hp := fun l' t' => bif l' == l && t' == t then o else H l' t'
def AObj.purge (l t : Nat) : AObj → AObj
  | .box cs => .box (AVal.purgeL l t cs)
  | .arr sz xs => .arr sz xs
  | .frz xs => .frz xs
  | .dead => .dead
/-- A new object at a slot of level l: what the slot held is forgotten. -/
def Hp.alloc (H : Hp) (l t : Nat) (o : AObj) : Hp := fun l' t' => bif l' == l then (bif t' == t then o else (H l' t').purge l t) else H l' t'

mutual
/-- All references are to levels below m. -/
def AVal.bel (m : Nat) : AVal → Bool
  | .ptr l _ _ => Nat.blt l m
  | .ref l _ _ => Nat.blt l m
  | .elt l _ _ _ _ => Nat.blt l m
  | .tup xs => AVal.belL m xs
  | .clo _ xs => AVal.belL m xs
  | .any => true
  | .nils => true
  | .d _ => true
  | .cptr _ => true
def AVal.belL (m : Nat) : List AVal → Bool
  | [] => true
  | x :: xs => AVal.bel m x && AVal.belL m xs
end
def AObj.bel (m : Nat) : AObj → Bool
  | .box cs => AVal.belL m cs
  | _ => true

theorem AVal.belL_iff (m : Nat) : ∀ xs, AVal.belL m xs = true ↔ ∀ x ∈ xs, AVal.bel m x = true
  | [] => by simp [AVal.belL]
  | x :: xs => by simp [AVal.belL, AVal.belL_iff m xs]

theorem blt_false {l m l0 : Nat} (h : Nat.blt l m = true) (hm : m ≤ l0) : (l == l0) = false := by
  have : l < m := by simpa [Nat.blt_eq] using h
  simp; omega

mutual
theorem AVal.purge_bel {m l0 t0 : Nat} (hm : m ≤ l0) : ∀ x : AVal, x.bel m = true → x.purge l0 t0 = x
  | .ptr l t off, h => by simp only [AVal.bel] at h; simp [AVal.purge, blt_false h hm]
  | .ref l t n, h => by simp only [AVal.bel] at h; simp [AVal.purge, blt_false h hm]
  | .elt l t n i j, h => by simp only [AVal.bel] at h; simp [AVal.purge, blt_false h hm]
  | .tup xs, h => by simp only [AVal.bel] at h; simp [AVal.purge, AVal.purgeL_bel hm xs h]
  | .clo f xs, h => by simp only [AVal.bel] at h; simp [AVal.purge, AVal.purgeL_bel hm xs h]
  | .any, _ => by simp [AVal.purge]
  | .nils, _ => by simp [AVal.purge]
  | .d _, _ => by simp [AVal.purge]
  | .cptr _, _ => by simp [AVal.purge]
theorem AVal.purgeL_bel {m l0 t0 : Nat} (hm : m ≤ l0) : ∀ xs : List AVal, AVal.belL m xs = true → AVal.purgeL l0 t0 xs = xs
  | [], _ => by simp [AVal.purgeL]
  | x :: xs, h => by
    simp only [AVal.belL, Bool.and_eq_true] at h
    simp [AVal.purgeL, AVal.purge_bel hm x h.1, AVal.purgeL_bel hm xs h.2]
end
mutual
theorem AVal.bel_purge {m l0 t0 : Nat} : ∀ x : AVal, x.bel m = true → (x.purge l0 t0).bel m = true
  | .ptr l t off, h => by simp only [AVal.purge]; cases (l == l0 && t == t0) <;> simp_all [AVal.bel]
  | .ref l t n, h => by simp only [AVal.purge]; cases (l == l0 && t == t0) <;> simp_all [AVal.bel]
  | .elt l t n i j, h => by simp only [AVal.purge]; cases (l == l0 && t == t0) <;> simp_all [AVal.bel]
  | .tup xs, h => by simp only [AVal.bel] at h; simp only [AVal.purge, AVal.bel]; exact AVal.belL_purge xs h
  | .clo f xs, h => by simp only [AVal.bel] at h; simp only [AVal.purge, AVal.bel]; exact AVal.belL_purge xs h
  | .any, _ => by simp [AVal.purge, AVal.bel]
  | .nils, _ => by simp [AVal.purge, AVal.bel]
  | .d _, _ => by simp [AVal.purge, AVal.bel]
  | .cptr _, _ => by simp [AVal.purge, AVal.bel]
theorem AVal.belL_purge {m l0 t0 : Nat} : ∀ xs : List AVal, AVal.belL m xs = true → AVal.belL m (AVal.purgeL l0 t0 xs) = true
  | [], _ => by simp [AVal.purgeL, AVal.belL]
  | x :: xs, h => by
    simp only [AVal.belL, Bool.and_eq_true] at h
    simp [AVal.purgeL, AVal.belL, AVal.bel_purge x h.1, AVal.belL_purge xs h.2]
end
mutual
theorem AVal.bel_mono {m m' : Nat} (hm : m ≤ m') : ∀ x : AVal, x.bel m = true → x.bel m' = true
  | .ptr l t off, h => by simp only [AVal.bel, Nat.blt_eq] at *; omega
  | .ref l t n, h => by simp only [AVal.bel, Nat.blt_eq] at *; omega
  | .elt l t n i j, h => by simp only [AVal.bel, Nat.blt_eq] at *; omega
  | .tup xs, h => by simp only [AVal.bel] at *; exact AVal.belL_mono hm xs h
  | .clo f xs, h => by simp only [AVal.bel] at *; exact AVal.belL_mono hm xs h
  | .any, _ => by simp [AVal.bel]
  | .nils, _ => by simp [AVal.bel]
  | .d _, _ => by simp [AVal.bel]
  | .cptr _, _ => by simp [AVal.bel]
theorem AVal.belL_mono {m m' : Nat} (hm : m ≤ m') : ∀ xs : List AVal, AVal.belL m xs = true → AVal.belL m' xs = true
  | [], _ => by simp [AVal.belL]
  | x :: xs, h => by
    simp only [AVal.belL, Bool.and_eq_true] at *
    exact ⟨AVal.bel_mono hm x h.1, AVal.belL_mono hm xs h.2⟩
end
theorem AObj.purge_bel {m l0 t0 : Nat} (hm : m ≤ l0) (x : AObj) (h : x.bel m = true) : x.purge l0 t0 = x := by
  cases x <;> simp only [AObj.purge]
  rw [AVal.purgeL_bel hm _ h]
theorem AObj.bel_purge {m l0 t0 : Nat} (x : AObj) (h : x.bel m = true) : (x.purge l0 t0).bel m = true := by
  cases x <;> simp only [AObj.purge] <;> first | exact h | rfl | exact AVal.belL_purge _ h

/-- Which block an object owns. -/
def AObj.own (K : Kt) (l t b : Nat) : AObj → Prop
  | .box _ => ∃ z, K l t 0 = some (some ⟨b, 0, none⟩, z)
  | .arr _ xs => ∃ o z, K l t xs.length = some (some ⟨b, o, none⟩, z)
  | .frz _ => False
  | .dead => False

def ArrAt (bad : Nat → Prop) (w wh : World) (sz : Nat) (xs : List DVal) (cap : Nat) : Option Addr → Prop
  | none => xs = [] ∧ cap = 0
  | some ad => ad.spot = none ∧ ∃ (vs : List Value) (ty : TypeId) (fz : Nat × Nat), wh.heap[ad.block]? = some (.cells ⟨vs⟩ ty fz) ∧ (∀ j, j < vs.length → ¬ (fz.1 ≤ j ∧ j < fz.2)) ∧ ad.off + cap * sz ≤ vs.length ∧
      ∀ (j : Nat) (c : DVal), (xs.flatMap DVal.cells)[j]? = some c → ∃ u, vs[ad.off + j]? = some u ∧ u.oneCell' = true ∧ Rd bad w c u

def Robj (bad : Nat → Prop) (K : Kt) (w : World) (l t : Nat) : AObj → Prop
  | .dead => True
  | .box cs => (∀ n, 0 < n → K l t n = none) ∧ ∃ (b : Nat) (vs : List Value) (ty : TypeId) (z : Nat × Nat), K l t 0 = some (some ⟨b, 0, none⟩, z) ∧ w.heap[b]? = some (.cells ⟨vs⟩ ty (0, 0)) ∧ vs.length = cs.length ∧
      (∀ (j : Nat) (x : Value), vs[j]? = some x → x.oneCell' = true) ∧ ∀ (j : Nat) (c : AVal) (x : Value), cs[j]? = some c → vs[j]? = some x → Rv bad K w c x
  | .arr sz xs => (∀ n, xs.length < n → K l t n = none) ∧ ∃ (a : Option Addr) (cap : Nat), K l t xs.length = some (a, cap, sz) ∧ (∀ x ∈ xs, x.cells.length = sz) ∧ xs.length ≤ cap ∧ ArrAt bad w w sz xs cap a
  | .frz xs => ∃ (a : Option Addr) (cap sz : Nat), K l t xs.length = some (a, cap, sz) ∧ (∀ x ∈ xs, x.cells.length = sz) ∧ Rd bad w (.list xs) (.slice a xs.length cap)

theorem AObj.own_size {bad : Nat → Prop} {K : Kt} {w : World} {l t b : Nat} {o : AObj} (h : Robj bad K w l t o) (ho : o.own K l t b) : b < w.heap.size := by
  have key : ∀ (b : Nat) (x : Obj), w.heap[b]? = some x → b < w.heap.size := fun b x hx => by
    rcases Nat.lt_or_ge b w.heap.size with h' | h'
    · exact h'
    · simp [Array.getElem?_eq_none h'] at hx
  cases o with
  | dead => exact ho.elim
  | frz xs => exact ho.elim
  | box cs =>
    obtain ⟨_, b', vs, ty, z, h1, h2, _⟩ := h
    obtain ⟨z', hz⟩ := ho
    rw [h1] at hz
    simp only [Option.some.injEq, Prod.mk.injEq, Addr.mk.injEq] at hz
    obtain ⟨⟨rfl, _⟩, _⟩ := hz
    exact key _ _ h2
  | arr sz xs =>
    obtain ⟨_, a, cap, h1, _, _, h2⟩ := h
    obtain ⟨off, z, hz⟩ := ho
    rw [h1] at hz
    simp only [Option.some.injEq, Prod.mk.injEq] at hz
    obtain ⟨rfl, _⟩ := hz
    obtain ⟨_, vs, ty, fz, h3, _⟩ := h2
    exact key _ _ h3

def badOf (S0 : Nat → Prop) (K : Kt) (H : Hp) (b : Nat) : Prop := S0 b ∨ ∃ l t, (H l t).own K l t b

/-- Blocks outside o are as they were. -/
structure Ch (o : Nat → Prop) (w w' : World) : Prop where
  os : w'.os = w.os
  tape : w'.tape = w.tape
  output : w'.output = w.output
  size : w.heap.size ≤ w'.heap.size
  drawn : w.drawn ≤ w'.drawn
  block : ∀ b, b < w.heap.size → ¬ o b → w'.heap[b]? = w.heap[b]?
theorem Ch.refl (o : Nat → Prop) (w : World) : Ch o w w := ⟨rfl, rfl, rfl, Nat.le_refl _, Nat.le_refl _, fun _ _ _ => rfl⟩
theorem Ch.trans {o o' : Nat → Prop} {a b c : World} (h : Ch o a b) (k : Ch o' b c) (ho : ∀ x, o' x → o x ∨ a.heap.size ≤ x) : Ch o a c :=
  ⟨k.os.trans h.os, k.tape.trans h.tape, k.output.trans h.output, Nat.le_trans h.size k.size, Nat.le_trans h.drawn k.drawn, fun x hx hn => by
    rw [k.block x (Nat.lt_of_lt_of_le hx h.size) (fun e => by rcases ho x e with e | e; exact hn e; omega), h.block x hx hn]⟩
theorem Ch.mono {o o' : Nat → Prop} {a b : World} (h : Ch o a b) (ho : ∀ x, o x → o' x) : Ch o' a b := ⟨h.os, h.tape, h.output, h.size, h.drawn, fun x hx hn => h.block x hx (fun e => hn (ho x e))⟩
theorem Ch.below {w w' : World} (h : Ch (fun _ => False) w w') : RowKit.Below w.heap.size w w' := ⟨h.os, h.tape, h.output, h.size, fun k hk => h.block k hk id⟩

theorem Robj.mono {bad bad' : Nat → Prop} {K K' : Kt} {w w' : World} {l t : Nat} {o : AObj} (h : Robj bad K w l t o) (hk : Keeps bad w bad' w') (hK : ∀ l t n z, K l t n = some z → K' l t n = some z)
    (hKe : K' l t = K l t) (hb : ∀ b, o.own K l t b → w'.heap[b]? = w.heap[b]?) : Robj bad' K' w' l t o := by
  cases o with
  | dead => trivial
  | box cs =>
    obtain ⟨hn, b, vs, ty, z, h1, h2, h3, h4, h5⟩ := h
    refine ⟨fun n hn' => by rw [hKe]; exact hn n hn', b, vs, ty, z, by rw [hKe]; exact h1, ?_, h3, h4, fun j c x hc hx => (h5 j c x hc hx).mono hk hK⟩
    rw [hb b ⟨z, h1⟩]; exact h2
  | arr sz xs =>
    obtain ⟨hn, a, cap, h1, h2, h3, h4⟩ := h
    refine ⟨fun n hn' => by rw [hKe]; exact hn n hn', a, cap, by rw [hKe]; exact h1, h2, h3, ?_⟩
    cases a with
    | none => exact h4
    | some ad =>
      obtain ⟨b, off, spot⟩ := ad
      obtain ⟨rfl, vs, ty, fz, h5, h6, h7, h8⟩ := h4
      refine ⟨rfl, vs, ty, fz, by rw [hb b ⟨off, _, h1⟩]; exact h5, h6, h7, fun j c hc => ?_⟩
      obtain ⟨u, hu, hu1, hu2⟩ := h8 j c hc
      exact ⟨u, hu, hu1, hu2.mono hk⟩
  | frz xs =>
    obtain ⟨a, cap, sz, h1, hs, h2⟩ := h
    exact ⟨a, cap, sz, by rw [hKe]; exact h1, hs, h2.mono hk⟩

/-- A frame's state. -/
structure St where
  n : Nat
  lev : Nat
  T : List (Nat × AVal)
  H : Hp
def lk : List (Nat × AVal) → Nat → AVal
  | [], _ => .any
  | (k, x) :: r, t => bif Nat.beq k t then x else lk r t
def purgeT (l t : Nat) : List (Nat × AVal) → List (Nat × AVal)
  | [] => []
  | (k, x) :: r => (k, AVal.purge l t x) :: purgeT l t r
theorem lk_purgeT (l t j : Nat) : ∀ T, lk (purgeT l t T) j = (lk T j).purge l t
  | [] => by simp [purgeT, lk, AVal.purge]
  | (k, x) :: r => by
    simp only [purgeT, lk]
    cases Nat.beq k j
    · simpa using lk_purgeT l t j r
    · rfl

/-- A call's surroundings: blocks that no data of the call may lie in, blocks that may change, the world at the start. -/
structure Env where
  S0 : Nat → Prop
  own0 : Nat → Prop
  bad0 : Nat → Prop
  K0 : Kt
  w0 : World
theorem Keeps.trans {b1 b2 b3 : Nat → Prop} {w1 w2 w3 : World} (h : Keeps b1 w1 b2 w2) (k : Keeps b2 w2 b3 w3) (hs : w1.heap.size ≤ w2.heap.size) : Keeps b1 w1 b3 w3 := fun b hb hn => by
  obtain ⟨h1, h2⟩ := h b hb hn
  obtain ⟨h3, h4⟩ := k b (by omega) h1
  exact ⟨h3, h4.trans h2⟩

structure HRel (E : Env) (lev : Nat) (H : Hp) (w : World) (K : Kt) : Prop where
  ob : ∀ l t, Robj (badOf E.S0 K H) K w l t (H l t)
  inj : ∀ l t l' t' b, (H l t).own K l t b → (H l' t').own K l' t' b → l = l' ∧ t = t'
  sep : ∀ l t b, (H l t).own K l t b → ¬ E.S0 b
  low : ∀ b, E.S0 b → b < w.heap.size
  ext : Ch E.own0 E.w0 w
  new : ∀ l t b, (H l t).own K l t b → E.own0 b ∨ E.w0.heap.size ≤ b
  top : ∀ l t, lev < l → H l t = .dead
  hb : ∀ l t, (H l t).bel (l + 1) = true
  kp : Keeps E.bad0 E.w0 (badOf E.S0 K H) w
  k0 : ∀ l t n z, l < lev → E.K0 l t n = some z → K l t n = some z

structure Rel (E : Env) (σ : St) (a : Act) (w : World) (K : Kt) : Prop where
  size : a.tmps.size = σ.n
  defs : a.defers = []
  tm : ∀ t, Rv (badOf E.S0 K σ.H) K w (lk σ.T t) (a.tmps.getD t undef)
  tb : ∀ t, (lk σ.T t).bel (σ.lev + 1) = true
  hr : HRel E σ.lev σ.H w K

theorem HRel.size {E : Env} {lev : Nat} {H : Hp} {w : World} {K : Kt} (h : HRel E lev H w K) {l t b : Nat} (ho : (H l t).own K l t b) : b < w.heap.size := AObj.own_size (h.ob l t) ho

section write
variable {E : Env} {lev : Nat} {H : Hp} {w w' : World} {K K' : Kt} {l t : Nat} {o' : AObj}
theorem Hp.set_same : (H.set l t o') l t = o' := by simp [Hp.set]
theorem Hp.set_ne {l2 t2 : Nat} (h : ¬ (l2 = l ∧ t2 = t)) : (H.set l t o') l2 t2 = H l2 t2 := by
  have : (l2 == l && t2 == t) = false := by simpa using h
  simp [Hp.set, this]
theorem AObj.own_congr {o : AObj} {l t b : Nat} (h : K' l t = K l t) : o.own K' l t b ↔ o.own K l t b := by
  cases o <;> simp only [AObj.own, h]
theorem Keeps.write (h : HRel E lev H w K) (hch : Ch (fun b => (H l t).own K l t b) w w') (hK' : ∀ l' t', ¬ (l' = l ∧ t' = t) → K' l' t' = K l' t')
    (hown : ∀ b, o'.own K' l t b → (H l t).own K l t b ∨ w.heap.size ≤ b) : Keeps (badOf E.S0 K H) w (badOf E.S0 K' (H.set l t o')) w' := by
  intro b hb hbad
  refine ⟨?_, hch.block b hb (fun e => hbad (.inr ⟨l, t, e⟩))⟩
  rintro (e | ⟨l2, t2, e⟩)
  · exact hbad (.inl e)
  · by_cases c : l2 = l ∧ t2 = t
    · obtain ⟨rfl, rfl⟩ := c
      rw [Hp.set_same] at e
      rcases hown b e with e | e
      · exact hbad (.inr ⟨_, _, e⟩)
      · omega
    · rw [Hp.set_ne c, AObj.own_congr (hK' l2 t2 c)] at e
      exact hbad (.inr ⟨_, _, e⟩)
theorem HRel.write (h : HRel E lev H w K) (hch : Ch (fun b => (H l t).own K l t b) w w') (hK : ∀ l t n z, K l t n = some z → K' l t n = some z) (hK' : ∀ l' t', ¬ (l' = l ∧ t' = t) → K' l' t' = K l' t')
    (hown : ∀ b, o'.own K' l t b → (H l t).own K l t b ∨ w.heap.size ≤ b) (hob : Robj (badOf E.S0 K' (H.set l t o')) K' w' l t o') (hbel : o'.bel (l + 1) = true) (hlev : l ≤ lev) :
    HRel E lev (H.set l t o') w' K' := by
  have hk := Keeps.write h hch hK' hown
  constructor
  · intro l2 t2
    by_cases c : l2 = l ∧ t2 = t
    · obtain ⟨rfl, rfl⟩ := c
      rw [Hp.set_same]
      exact hob
    · rw [Hp.set_ne c]
      refine (h.ob l2 t2).mono hk hK (hK' l2 t2 c) (fun b hb => hch.block b (h.size hb) (fun e => c ?_))
      exact h.inj _ _ _ _ b hb e
  · have key : ∀ l2 t2 b, ¬ (l2 = l ∧ t2 = t) → ((H.set l t o') l2 t2).own K' l2 t2 b → (H l2 t2).own K l2 t2 b := fun l2 t2 b c e => by
      rwa [Hp.set_ne c, AObj.own_congr (hK' l2 t2 c)] at e
    have key2 : ∀ l2 t2 b, ¬ (l2 = l ∧ t2 = t) → ((H.set l t o') l2 t2).own K' l2 t2 b → o'.own K' l t b → False := fun l2 t2 b c e e' => by
      have e2 := key l2 t2 b c e
      rcases hown b e' with e3 | e3
      · exact c (h.inj _ _ _ _ b e2 e3)
      · have := h.size e2; omega
    intro l2 t2 l3 t3 b e2 e3
    by_cases c2 : l2 = l ∧ t2 = t
    · by_cases c3 : l3 = l ∧ t3 = t
      · exact ⟨c2.1.trans c3.1.symm, c2.2.trans c3.2.symm⟩
      · obtain ⟨rfl, rfl⟩ := c2
        rw [Hp.set_same] at e2
        exact (key2 l3 t3 b c3 e3 e2).elim
    · by_cases c3 : l3 = l ∧ t3 = t
      · obtain ⟨rfl, rfl⟩ := c3
        rw [Hp.set_same] at e3
        exact (key2 l2 t2 b c2 e2 e3).elim
      · exact h.inj _ _ _ _ b (key l2 t2 b c2 e2) (key l3 t3 b c3 e3)
  · intro l2 t2 b e
    by_cases c : l2 = l ∧ t2 = t
    · obtain ⟨rfl, rfl⟩ := c
      rw [Hp.set_same] at e
      rcases hown b e with e | e
      · exact h.sep _ _ b e
      · exact fun s => by have := h.low b s; omega
    · rw [Hp.set_ne c, AObj.own_congr (hK' l2 t2 c)] at e
      exact h.sep _ _ b e
  · exact fun b hb => Nat.lt_of_lt_of_le (h.low b hb) hch.size
  · exact h.ext.trans hch (fun x hx => (h.new l t x hx))
  · intro l2 t2 b e
    by_cases c : l2 = l ∧ t2 = t
    · obtain ⟨rfl, rfl⟩ := c
      rw [Hp.set_same] at e
      rcases hown b e with e | e
      · exact h.new _ _ b e
      · exact .inr (Nat.le_trans h.ext.size e)
    · rw [Hp.set_ne c, AObj.own_congr (hK' l2 t2 c)] at e
      exact h.new _ _ b e
  · intro l2 t2 hl
    rw [Hp.set_ne (fun c => by omega)]
    exact h.top l2 t2 hl
  · intro l2 t2
    by_cases c : l2 = l ∧ t2 = t
    · obtain ⟨rfl, rfl⟩ := c
      rw [Hp.set_same]
      exact hbel
    · rw [Hp.set_ne c]
      exact h.hb l2 t2
  · exact h.kp.trans hk h.ext.size
  · exact fun l t n z hl hz => hK l t n z (h.k0 l t n z hl hz)
end write
end Go.Fw
/- States: a new object; a temporary; a world of which nothing has changed. -/
set_option autoImplicit false
namespace Go.Fw
theorem Robj.purge {bad bad' : Nat → Prop} {K K' : Kt} {w w' : World} {l t l0 t0 : Nat} {o : AObj} (h : Robj bad K w l t o) (hk : Keeps bad w bad' w')
    (hK : ∀ l t, ¬ (l = l0 ∧ t = t0) → K' l t = K l t) (hne : ¬ (l = l0 ∧ t = t0)) (hb : ∀ b, o.own K l t b → w'.heap[b]? = w.heap[b]?) : Robj bad' K' w' l t (o.purge l0 t0) := by
  have hK2 : ∀ l t n z, ¬ (l = l0 ∧ t = t0) → K l t n = some z → K' l t n = some z := fun l t n z hn hz => by rw [hK l t hn]; exact hz
  have hKe := hK l t hne
  cases o with
  | dead => trivial
  | box cs =>
    obtain ⟨hn, b, vs, ty, z, h1, h2, h3, h4, h5⟩ := h
    refine ⟨fun n hn' => by rw [hKe]; exact hn n hn', b, vs, ty, z, by rw [hKe]; exact h1, ?_, by rw [AVal.purgeL_eq]; simpa using h3, h4, fun j c x hc hx => ?_⟩
    · rw [hb b ⟨z, h1⟩]; exact h2
    · rw [AVal.purgeL_eq, List.getElem?_map] at hc
      obtain ⟨c0, hc0, rfl⟩ := Option.map_eq_some_iff.1 hc
      exact (h5 j c0 x hc0 hx).purge hk hK2
  | arr sz xs =>
    obtain ⟨hn, a, cap, h1, h2, h3, h4⟩ := h
    refine ⟨fun n hn' => by rw [hKe]; exact hn n hn', a, cap, by rw [hKe]; exact h1, h2, h3, ?_⟩
    cases a with
    | none => exact h4
    | some ad =>
      obtain ⟨b, off, spot⟩ := ad
      obtain ⟨rfl, vs, ty, fz, h5, h6, h7, h8⟩ := h4
      refine ⟨rfl, vs, ty, fz, by rw [hb b ⟨off, _, h1⟩]; exact h5, h6, h7, fun j c hc => ?_⟩
      obtain ⟨u, hu, hu1, hu2⟩ := h8 j c hc
      exact ⟨u, hu, hu1, hu2.mono hk⟩
  | frz xs =>
    obtain ⟨a, cap, sz, h1, hs, h2⟩ := h
    exact ⟨a, cap, sz, by rw [hKe]; exact h1, hs, h2.mono hk⟩
theorem AObj.own_purge {o : AObj} {K : Kt} {l t b l0 t0 : Nat} : (o.purge l0 t0).own K l t b ↔ o.own K l t b := by
  cases o <;> simp only [AObj.purge, AObj.own]

section alloc
variable {E : Env} {lev : Nat} {H : Hp} {w w' : World} {K K' : Kt} {t : Nat} {o' : AObj}
theorem Hp.alloc_same : (H.alloc lev t o') lev t = o' := by simp [Hp.alloc]
theorem HRel.alloc_at (h : HRel E lev H w K) (l2 t2 : Nat) (hn : ¬ (l2 = lev ∧ t2 = t)) : (H.alloc lev t o') l2 t2 = (H l2 t2).purge lev t := by
  unfold Hp.alloc
  by_cases e : l2 = lev
  · subst e
    have : (t2 == t) = false := by simpa using hn
    simp [this]
  · have e' : (l2 == lev) = false := by simpa using e
    simp only [e', cond_false]
    rcases Nat.lt_or_ge l2 lev with hl | hl
    · rw [AObj.purge_bel (m := l2 + 1) (by omega) _ (h.hb l2 t2)]
    · rw [h.top l2 t2 (by omega)]; rfl
theorem Keeps.alloc (h : HRel E lev H w K) (hch : Ch (fun _ => False) w w') (hK' : ∀ l' t', ¬ (l' = lev ∧ t' = t) → K' l' t' = K l' t') (hown : ∀ b, o'.own K' lev t b → w.heap.size ≤ b) :
    Keeps (badOf E.S0 K H) w (badOf E.S0 K' (H.alloc lev t o')) w' := by
  intro b hb hbad
  refine ⟨?_, hch.block b hb id⟩
  rintro (e | ⟨l2, t2, e⟩)
  · exact hbad (.inl e)
  · by_cases c : l2 = lev ∧ t2 = t
    · obtain ⟨rfl, rfl⟩ := c
      rw [Hp.alloc_same] at e
      have := hown b e
      omega
    · rw [h.alloc_at l2 t2 c, AObj.own_purge, AObj.own_congr (hK' l2 t2 c)] at e
      exact hbad (.inr ⟨_, _, e⟩)
theorem HRel.alloc (h : HRel E lev H w K) (hch : Ch (fun _ => False) w w') (hK' : ∀ l' t', ¬ (l' = lev ∧ t' = t) → K' l' t' = K l' t') (hown : ∀ b, o'.own K' lev t b → w.heap.size ≤ b)
    (hob : Robj (badOf E.S0 K' (H.alloc lev t o')) K' w' lev t o') (hbel : o'.bel (lev + 1) = true) : HRel E lev (H.alloc lev t o') w' K' := by
  have hk := Keeps.alloc h hch hK' hown
  have key : ∀ l2 t2 b, ¬ (l2 = lev ∧ t2 = t) → ((H.alloc lev t o') l2 t2).own K' l2 t2 b → (H l2 t2).own K l2 t2 b := fun l2 t2 b c e => by
    rwa [h.alloc_at l2 t2 c, AObj.own_purge, AObj.own_congr (hK' l2 t2 c)] at e
  constructor
  · intro l2 t2
    by_cases c : l2 = lev ∧ t2 = t
    · obtain ⟨rfl, rfl⟩ := c
      rw [Hp.alloc_same]
      exact hob
    · rw [h.alloc_at l2 t2 c]
      exact (h.ob l2 t2).purge hk hK' c (fun b hb => hch.block b (h.size hb) id)
  · intro l2 t2 l3 t3 b e2 e3
    by_cases c2 : l2 = lev ∧ t2 = t
    · by_cases c3 : l3 = lev ∧ t3 = t
      · exact ⟨c2.1.trans c3.1.symm, c2.2.trans c3.2.symm⟩
      · obtain ⟨rfl, rfl⟩ := c2
        rw [Hp.alloc_same] at e2
        have := hown b e2
        have := h.size (key l3 t3 b c3 e3)
        omega
    · by_cases c3 : l3 = lev ∧ t3 = t
      · obtain ⟨rfl, rfl⟩ := c3
        rw [Hp.alloc_same] at e3
        have := hown b e3
        have := h.size (key l2 t2 b c2 e2)
        omega
      · exact h.inj _ _ _ _ b (key l2 t2 b c2 e2) (key l3 t3 b c3 e3)
  · intro l2 t2 b e
    by_cases c : l2 = lev ∧ t2 = t
    · obtain ⟨rfl, rfl⟩ := c
      rw [Hp.alloc_same] at e
      have := hown b e
      exact fun s => by have := h.low b s; omega
    · exact h.sep _ _ b (key l2 t2 b c e)
  · exact fun b hb => Nat.lt_of_lt_of_le (h.low b hb) hch.size
  · exact h.ext.trans hch (fun x hx => hx.elim)
  · intro l2 t2 b e
    by_cases c : l2 = lev ∧ t2 = t
    · obtain ⟨rfl, rfl⟩ := c
      rw [Hp.alloc_same] at e
      exact .inr (Nat.le_trans h.ext.size (hown b e))
    · exact h.new _ _ b (key l2 t2 b c e)
  · intro l2 t2 hl
    rw [h.alloc_at l2 t2 (fun c => by omega), h.top l2 t2 hl]; rfl
  · intro l2 t2
    by_cases c : l2 = lev ∧ t2 = t
    · obtain ⟨rfl, rfl⟩ := c
      rw [Hp.alloc_same]
      exact hbel
    · rw [h.alloc_at l2 t2 c]
      exact AObj.bel_purge _ (h.hb l2 t2)
  · exact h.kp.trans hk h.ext.size
  · exact fun l t2 n z hl hz => by rw [hK' l t2 (by omega)]; exact h.k0 l t2 n z hl hz
end alloc

/-- A world in which nothing has changed but draws. -/
theorem HRel.world {E : Env} {lev : Nat} {H : Hp} {w w' : World} {K : Kt} (h : HRel E lev H w K) (hch : Ch (fun _ => False) w w') : HRel E lev H w' K := by
  have hk : Keeps (badOf E.S0 K H) w (badOf E.S0 K H) w' := fun b hb hbad => ⟨hbad, hch.block b hb id⟩
  exact ⟨fun l t => (h.ob l t).mono hk (fun _ _ _ _ hz => hz) rfl (fun b hb => hch.block b (h.size hb) id), h.inj, h.sep, fun b hb => Nat.lt_of_lt_of_le (h.low b hb) hch.size, h.ext.trans hch (fun x hx => hx.elim), h.new, h.top, h.hb, h.kp.trans hk h.ext.size, h.k0⟩

/-- The state with a temporary set. -/
def setT : List (Nat × AVal) → Nat → AVal → List (Nat × AVal)
  | [], t, x => [(t, x)]
  | (k, y) :: r, t, x => bif Nat.beq k t then (k, x) :: r else (k, y) :: setT r t x
def St.put (σ : St) (dst : Option Tmp) (x : AVal) : St :=
  match dst with
  | some d => { σ with T := setT σ.T d x }
  | none => σ
theorem getD_setIfInBounds (ts : Array Value) (d : Nat) (v : Value) (t : Nat) (hd : d < ts.size) : (ts.setIfInBounds d v).getD t undef = if d = t then v else ts.getD t undef := by
  simp only [Array.getD_eq_getD_getElem?, Array.getElem?_setIfInBounds]
  by_cases e : d = t
  · simp [e]; simp [← e, hd]
  · simp [e]
theorem lk_cons (k t : Nat) (x : AVal) (r : List (Nat × AVal)) : lk ((k, x) :: r) t = if k = t then x else lk r t := by
  simp only [lk]
  by_cases e : k = t
  · simp [e]
  · have : Nat.beq k t = false := by
      cases h : Nat.beq k t
      · rfl
      · exact absurd (Nat.eq_of_beq_eq_true h) e
    simp [this, e]
theorem lk_setT : ∀ (T : List (Nat × AVal)) (k t : Nat) (x : AVal), lk (setT T k x) t = if k = t then x else lk T t
  | [], k, t, x => by rw [setT, lk_cons]
  | (j, y) :: r, k, t, x => by
    rw [setT]
    cases h : Nat.beq j k with
    | true =>
      have e := Nat.eq_of_beq_eq_true h
      subst e
      simp only [cond_true, lk_cons]
      by_cases q : j = t
      · simp [q]
      · simp [q]
    | false =>
      simp only [cond_false, lk_cons, lk_setT r k t x]
      by_cases q : j = t
      · subst q
        have : ¬ k = j := fun e => by rw [e] at h; simp at h
        simp [this]
      · simp [q]
def okDst (n : Nat) : Option Tmp → Bool
  | some d => Nat.blt d n
  | none => true
/-- After something: the temporaries' values stand for what they stood for; one is set. -/
theorem Rel.put {E : Env} {σ : St} {a : Act} {w w' : World} {K K' : Kt} {H' : Hp} {dst : Option Tmp} {x : AVal} {v : Value} (h : Rel E σ a w K) (hd : okDst σ.n dst = true) (hr : HRel E σ.lev H' w' K')
    (hk : Keeps (badOf E.S0 K σ.H) w (badOf E.S0 K' H') w') (hK : ∀ l t n z, K l t n = some z → K' l t n = some z) (hx : Rv (badOf E.S0 K' H') K' w' x v) (hb : x.bel (σ.lev + 1) = true) :
    Rel E (St.put { σ with H := H' } dst x) (a.put dst v) w' K' := by
  cases dst with
  | none => exact ⟨h.size, h.defs, fun t => (h.tm t).mono hk hK, h.tb, hr⟩
  | some d =>
    have hd' : d < a.tmps.size := by rw [h.size]; simpa [okDst] using hd
    refine ⟨by simp [Act.put, St.put, h.size], h.defs, fun t => ?_, fun t => ?_, hr⟩
    · simp only [St.put, Act.put, lk_setT, getD_setIfInBounds _ _ _ _ hd']
      by_cases e : d = t
      · simp only [e, if_true]; exact hx
      · simp only [e, if_false]; exact (h.tm t).mono hk hK
    · simp only [St.put, lk_setT]
      by_cases e : d = t
      · simp only [e, if_true]; exact hb
      · simp only [e, if_false]; exact h.tb t
theorem Keeps.rfl' {bad : Nat → Prop} {w : World} : Keeps bad w bad w := fun _ _ h => ⟨h, rfl⟩
/-- Nothing but a temporary. -/
theorem Rel.put_pure {E : Env} {σ : St} {a : Act} {w : World} {K : Kt} {dst : Option Tmp} {x : AVal} {v : Value} (h : Rel E σ a w K) (hd : okDst σ.n dst = true)
    (hx : Rv (badOf E.S0 K σ.H) K w x v) (hb : x.bel (σ.lev + 1) = true) : Rel E (σ.put dst x) (a.put dst v) w K :=
  h.put hd h.hr Keeps.rfl' (fun _ _ _ _ hz => hz) hx hb
/-- A new object. -/
def St.alloc (σ : St) (dst : Nat) (o : AObj) (x : AVal) : St := { σ with T := setT (purgeT σ.lev dst σ.T) dst x, H := σ.H.alloc σ.lev dst o }
theorem Rel.alloc {E : Env} {σ : St} {a : Act} {w w' : World} {K K' : Kt} {d : Nat} {o' : AObj} {x : AVal} {v : Value} (h : Rel E σ a w K) (hd : okDst σ.n (some d) = true) (hch : Ch (fun _ => False) w w')
    (hK' : ∀ l' t', ¬ (l' = σ.lev ∧ t' = d) → K' l' t' = K l' t') (hown : ∀ b, o'.own K' σ.lev d b → w.heap.size ≤ b)
    (hob : Robj (badOf E.S0 K' (σ.H.alloc σ.lev d o')) K' w' σ.lev d o') (hbel : o'.bel (σ.lev + 1) = true)
    (hx : Rv (badOf E.S0 K' (σ.H.alloc σ.lev d o')) K' w' x v) (hb : x.bel (σ.lev + 1) = true) : Rel E (σ.alloc d o' x) (a.put (some d) v) w' K' := by
  have hk := Keeps.alloc h.hr hch hK' hown
  have hd' : d < a.tmps.size := by rw [h.size]; simpa [okDst] using hd
  refine ⟨by simp [Act.put, St.alloc, h.size], h.defs, fun t => ?_, fun t => ?_, h.hr.alloc hch hK' hown hob hbel⟩
  · simp only [St.alloc, Act.put, lk_setT, getD_setIfInBounds _ _ _ _ hd', lk_purgeT]
    by_cases e : d = t
    · simp only [e, if_true]; rw [e] at hx; exact hx
    · simp only [e, if_false]
      exact (h.tm t).purge hk (fun l t n z hn hz => by rw [hK' l t hn]; exact hz)
  · simp only [St.alloc, lk_setT, lk_purgeT]
    by_cases e : d = t
    · simp only [e, if_true]; exact hb
    · simp only [e, if_false]; exact AVal.bel_purge _ (h.tb t)
end Go.Fw
/- Single operations on abstract states: those that read no memory. -/
set_option autoImplicit false
namespace Go.Fw
/-- A computation that yields the same in every world, and leaves it alone. -/
noncomputable def pr {α : Type} (P : Program) (s : Sem α) : Option α := by
  classical
  exact if h : ∃ r, ∀ w, s.run P w = .ok r w then some h.choose else none
theorem pr_run {α : Type} (P : Program) (s : Sem α) (a : α) (w : World) (h : pr P s = some a) : s.run P w = .ok a w := by
  unfold pr at h
  split at h
  · rename_i hh
    simp only [Option.some.injEq] at h
    rw [← h]
    exact hh.choose_spec w
  · cases h
theorem pr_of {α : Type} {P : Program} {s : Sem α} {r : α} (h : ∀ w, s.run P w = .ok r w) : pr P s = some r := by
  unfold pr
  have hh : ∃ r, ∀ w, s.run P w = .ok r w := ⟨r, h⟩
  rw [dif_pos hh]
  have e := hh.choose_spec default
  rw [h default] at e
  simp only [Result.ok.injEq, and_true] at e
  rw [← e]

def constD : Value → DVal
  | .slice none 0 _ => .list []
  | x => .v x
def ofConst : Value → AVal
  | .slice none 0 0 => .nils
  | .agg cs => bif cs.all (·.oneCell') then .d (.agg (cs.toList.map constD)) else .any
  | .tuple _ => .any
  | x => .d (.v x)
theorem Rd.const {bad : Nat → Prop} {w : World} {x : Value} (h : x.oneCell' = true) : Rd bad w (constD x) x := by
  unfold constD
  split
  · rename_i cap
    exact .list (xs := []) (sz := 0) (b := 0) (o := 0) (f := fun _ => default) (by simp) (Nat.zero_le _) (by simp) (by simp) (by simp) (by simp)
  · exact .v h
theorem Rv.const {bad : Nat → Prop} {K : Kt} {w : World} (x : Value) : Rv bad K w (ofConst x) x := by
  unfold ofConst
  split
  · exact .nils
  · rename_i cs
    cases h : cs.all (·.oneCell') with
    | false => exact .any
    | true =>
      refine .d (Rd.agg (vs := cs.toList) (by simp) (fun j x hx => ?_) (fun j c x hc hx => ?_))
      · exact (Array.all_eq_true_iff_forall_mem.1 h) x (by simpa using List.mem_of_getElem? hx)
      · rw [List.getElem?_map, hx] at hc
        simp only [Option.map_some, Option.some.injEq] at hc
        subst hc
        exact Rd.const ((Array.all_eq_true_iff_forall_mem.1 h) x (by simpa using List.mem_of_getElem? hx))
  · exact .any
  · rename_i h1 h2 h3
    refine .d (.v ?_)
    cases x <;> first | rfl | (exact (h2 _ rfl).elim) | (exact (h3 _ rfl).elim)
theorem bel_const (m : Nat) (x : Value) : (ofConst x).bel m = true := by
  unfold ofConst
  split <;> (try simp only [AVal.bel])
  rename_i cs
  cases cs.all (·.oneCell') <;> simp [AVal.bel]

def evO (σ : St) : Operand → AVal
  | .tmp t => lk σ.T t
  | .const c => ofConst c
  | .global _ => .any
  | .func f => .clo f []
theorem Rel.ev {E : Env} {σ : St} {a : Act} {w : World} {K : Kt} (h : Rel E σ a w K) (x : Operand) : Rv (badOf E.S0 K σ.H) K w (evO σ x) (a.eval x) := by
  cases x with
  | tmp t => exact h.tm t
  | const c => exact Rv.const c
  | global g => exact .any
  | func f => exact .clo (xs := []) (vs := []) rfl (by simp)
theorem Rel.evb {E : Env} {σ : St} {a : Act} {w : World} {K : Kt} (h : Rel E σ a w K) (x : Operand) : (evO σ x).bel (σ.lev + 1) = true := by
  cases x with
  | tmp t => exact h.tb t
  | const c => exact bel_const _ c
  | global g => rfl
  | func f => rfl

/-- The concrete value, where the abstract one leaves no choice. -/
def toVc : List DVal → Option (List Value)
  | [] => some []
  | .v x :: r => (toVc r).map (x :: ·)
  | _ :: _ => none
def toV : AVal → Option Value
  | .d (.v x) => some x
  | .d (.agg cs) => (toVc cs).map fun vs => .agg ⟨vs⟩
  | .nils => some (.slice none 0 0)
  | _ => none
theorem toVc_eq : ∀ {bad : Nat → Prop} {w : World} {cs : List DVal} {us vs : List Value}, toVc cs = some us → vs.length = cs.length → (∀ (j : Nat) (c : DVal) (x : Value), cs[j]? = some c → vs[j]? = some x → Rd bad w c x) → vs = us
  | _, _, [], us, vs, h, hl, _ => by
    simp only [toVc, Option.some.injEq] at h
    subst h
    exact List.length_eq_zero_iff.1 (by simpa using hl)
  | bad, w, .v x :: r, us, vs, h, hl, hr => by
    simp only [toVc, Option.map_eq_some_iff] at h
    obtain ⟨us', h', rfl⟩ := h
    cases vs with
    | nil => simp at hl
    | cons y ys =>
      have h0 := hr 0 (.v x) y rfl rfl
      cases h0
      exact congrArg _ (toVc_eq (bad := bad) (w := w) h' (by simpa using hl) (fun j c z hc hz => hr (j + 1) c z (by simpa using hc) (by simpa using hz)))
  | _, _, .list _ :: _, us, vs, h, hl, _ => by simp [toVc] at h
  | _, _, .agg _ :: _, us, vs, h, hl, _ => by simp [toVc] at h
theorem toV_eq {bad : Nat → Prop} {K : Kt} {w : World} {x : AVal} {u v : Value} (h : toV x = some u) (hr : Rv bad K w x v) : v = u := by
  cases hr with
  | any => simp [toV] at h
  | nils => simp only [toV, Option.some.injEq] at h; exact h
  | d hd =>
    cases hd with
    | v _ => simp only [toV, Option.some.injEq] at h; exact h
    | agg hl h1 h2 =>
      simp only [toV, Option.map_eq_some_iff] at h
      obtain ⟨us, hu, rfl⟩ := h
      rw [toVc_eq hu hl h2]
    | list => simp [toV] at h
  | _ => simp [toV] at h

/-- One operation, with what it does to the abstract state. -/
def OpOk (P : Program) (o : Oper) (σ σ' : St) : Prop :=
  ∀ (E : Env) (a : Act) (w : World) (K : Kt), Rel E σ a w K → ∃ (v : Value) (w' : World) (K' : Kt),
    ((execOp a.eval o).run P w = .ok (.value v) w' ∨ ((execOp a.eval o).run P w = .ok .skip w' ∧ v = undef)) ∧ Rel E σ' (a.put o.dst v) w' K'

/-- Operations on scalars. -/
def scal1 (σ : St) (dst : Option Tmp) (x : AVal) (f : Value → Option Value) : Option St :=
  (toV x).bind fun u => (f u).map fun r => σ.put dst (ofConst r)
def scal2 (σ : St) (dst : Option Tmp) (x y : AVal) (f : Value → Value → Option Value) : Option St :=
  (toV x).bind fun u => (toV y).bind fun v => (f u v).map fun r => σ.put dst (ofConst r)
theorem scal1_ok {P : Program} {σ σ' : St} {o : Oper} {x : Operand} {f : Value → Sem Value} (hd : okDst σ.n o.dst = true) (h : scal1 σ o.dst (evO σ x) (fun u => pr P (f u)) = some σ')
    (he : ∀ ρ : Operand → Value, execOp ρ o = (do pure (.value (← f (ρ x))))) : OpOk P o σ σ' := by
  intro E a w K hR
  unfold scal1 at h
  obtain ⟨u, hu, h⟩ := Option.bind_eq_some_iff.1 h
  obtain ⟨r, hr, rfl⟩ := Option.map_eq_some_iff.1 h
  have e := toV_eq hu (hR.ev x)
  refine ⟨r, w, K, .inl ?_, hR.put_pure hd (Rv.const r) (bel_const _ r)⟩
  rw [he, e]
  simp [pr_run P _ r w hr]
theorem scal2_ok {P : Program} {σ σ' : St} {o : Oper} {x y : Operand} {f : Value → Value → Sem Value} (hd : okDst σ.n o.dst = true) (h : scal2 σ o.dst (evO σ x) (evO σ y) (fun u v => pr P (f u v)) = some σ')
    (he : ∀ ρ : Operand → Value, execOp ρ o = (do pure (.value (← f (ρ x) (ρ y))))) : OpOk P o σ σ' := by
  intro E a w K hR
  unfold scal2 at h
  obtain ⟨u, hu, h⟩ := Option.bind_eq_some_iff.1 h
  obtain ⟨v, hv, h⟩ := Option.bind_eq_some_iff.1 h
  obtain ⟨r, hr, rfl⟩ := Option.map_eq_some_iff.1 h
  have e := toV_eq hu (hR.ev x)
  have e2 := toV_eq hv (hR.ev y)
  refine ⟨r, w, K, .inl ?_, hR.put_pure hd (Rv.const r) (bel_const _ r)⟩
  rw [he, e, e2]
  simp [pr_run P _ r w hr]

/-- A pure value is moved. -/
theorem move_ok {P : Program} {σ : St} {o : Oper} {x : Operand} (hd : okDst σ.n o.dst = true) (he : ∀ ρ : Operand → Value, execOp ρ o = pure (.value (ρ x))) : OpOk P o σ (σ.put o.dst (evO σ x)) := by
  intro E a w K hR
  exact ⟨a.eval x, w, K, .inl (by rw [he]; rfl), hR.put_pure hd (hR.ev x) (hR.evb x)⟩

def boolOf : AVal → Option Bool
  | .d (.v (.bool b)) => some b
  | _ => none
theorem boolOf_eq {bad : Nat → Prop} {K : Kt} {w : World} {x : AVal} {b : Bool} {v : Value} (h : boolOf x = some b) (hr : Rv bad K w x v) : v = .bool b := by
  cases hr with
  | d hd =>
    cases hd with
    | v _ =>
      unfold boolOf at h
      split at h
      · rename_i e
        simp only [Option.some.injEq] at h
        simp only [AVal.d.injEq, DVal.v.injEq] at e
        rw [e, h]
      · cases h
    | _ => simp [boolOf] at h
  | _ => simp [boolOf] at h
def stPick (σ : St) (dst : Option Tmp) (c x y : Operand) : Option St :=
  (boolOf (evO σ c)).map fun b => σ.put dst (bif b then evO σ x else evO σ y)
theorem pick_ok {P : Program} {σ σ' : St} {o : Oper} {c x y : Operand} (ho : o.op = .pick c x y) (hd : okDst σ.n o.dst = true) (h : stPick σ o.dst c x y = some σ') : OpOk P o σ σ' := by
  intro E a w K hR
  obtain ⟨b, hb, rfl⟩ := Option.map_eq_some_iff.1 h
  have e := boolOf_eq hb (hR.ev c)
  refine ⟨if b then a.eval x else a.eval y, w, K, .inl ?_, hR.put_pure hd ?_ ?_⟩
  · simp [execOp, ho, e, asBool]
  · cases b
    · exact hR.ev y
    · exact hR.ev x
  · cases b
    · exact hR.evb y
    · exact hR.evb x

def stExtract (σ : St) (dst : Option Tmp) (x : Operand) (i : Nat) : Option St :=
  match evO σ x with
  | .tup xs => xs[i]?.map fun y => σ.put dst y
  | _ => none
theorem extract_ok {P : Program} {σ σ' : St} {o : Oper} {x : Operand} {i : Nat} (ho : o.op = .extract x i) (hd : okDst σ.n o.dst = true) (h : stExtract σ o.dst x i = some σ') : OpOk P o σ σ' := by
  intro E a w K hR
  unfold stExtract at h
  have hx := hR.ev x
  have hb := hR.evb x
  cases hxe : evO σ x with
  | tup xs =>
    rw [hxe] at h hx hb
    obtain ⟨y, hy, rfl⟩ := Option.map_eq_some_iff.1 h
    generalize hv : a.eval x = v at hx
    cases hx with
    | tup hl hr =>
      rename_i vs
      have hlt : i < xs.length := (List.getElem?_eq_some_iff.1 hy).1
      have hlt' : i < vs.length := by omega
      refine ⟨vs[i], w, K, .inl ?_, hR.put_pure hd (hr i y _ hy (List.getElem?_eq_getElem hlt')) ?_⟩
      · simp [execOp, ho, hv, Instr.extract, hlt']
      · simp only [AVal.bel] at hb
        exact (AVal.belL_iff _ xs).1 hb y (List.mem_of_getElem? hy)
  | _ => rw [hxe] at h; cases h

def stFunc (σ : St) (dst : Option Tmp) (f : FuncId) (caps : Array Operand) : St := σ.put dst (.clo f (caps.toList.map (evO σ)))
theorem func_ok {P : Program} {σ : St} {o : Oper} {f : FuncId} {caps : Array Operand} (ho : o.op = .makeFunc (.func f) #[] caps) (hd : okDst σ.n o.dst = true) : OpOk P o σ (stFunc σ o.dst f caps) := by
  intro E a w K hR
  refine ⟨.func (.func f) #[] ⟨caps.toList.map a.eval⟩, w, K, .inl ?_, hR.put_pure hd ?_ ?_⟩
  · simp [execOp, ho, Instr.makeFunc]
    apply Array.ext'
    simp
  · refine .clo (by simp) (fun j c x hc hx => ?_)
    rw [List.getElem?_map] at hc hx
    obtain ⟨y, hy, rfl⟩ := Option.map_eq_some_iff.1 hc
    rw [hy] at hx
    simp only [Option.map_some, Option.some.injEq] at hx
    subst hx
    exact hR.ev y
  · simp only [AVal.bel]
    refine (AVal.belL_iff _ _).2 (fun x hx => ?_)
    obtain ⟨y, _, rfl⟩ := List.mem_map.1 hx
    exact hR.evb y

def stNil (σ : St) (dst : Option Tmp) (x : Operand) : Option St :=
  match evO σ x with
  | .ptr l t off => some (σ.put dst (.ptr l t off))
  | .elt l t n i j => some (σ.put dst (.elt l t n i j))
  | .cptr cs => some (σ.put dst (.cptr cs))
  | _ => none
theorem nil_ok {P : Program} {σ σ' : St} {o : Oper} {x : Operand} (ho : o.op = .nilCheck x) (hd : okDst σ.n o.dst = true) (h : stNil σ o.dst x = some σ') : OpOk P o σ σ' := by
  intro E a w K hR
  have hx := hR.ev x
  have hb := hR.evb x
  unfold stNil at h
  generalize hv : a.eval x = v at hx
  generalize hq : evO σ x = q at hx hb h
  cases hx with
  | ptr hk =>
    simp only [Option.some.injEq] at h
    subst h
    exact ⟨_, w, K, .inl (by simp [execOp, ho, hv]), hR.put_pure hd (.ptr hk) hb⟩
  | elt hk =>
    simp only [Option.some.injEq] at h
    subst h
    exact ⟨_, w, K, .inl (by simp [execOp, ho, hv]), hR.put_pure hd (.elt hk) hb⟩
  | cptr h1 h2 h3 =>
    simp only [Option.some.injEq] at h
    subst h
    exact ⟨_, w, K, .inl (by simp [execOp, ho, hv]), hR.put_pure hd (.cptr h1 h2 h3) hb⟩
  | _ => cases h

/-- The size of a type, and whether it takes several cells side by side. -/
def szOf (P : Program) (t : TypeId) : Option Nat := (P.info? t).map (·.size)
def aggOf (P : Program) (t : TypeId) : Option Bool := (P.underlying t).map fun | .struct _ | .array _ _ => true | _ => false
theorem run_sizeOf {P : Program} {t : TypeId} {n : Nat} (h : szOf P t = some n) (w : World) : (sizeOf t).run P w = .ok n w := by
  unfold szOf at h
  obtain ⟨i, hi, rfl⟩ := Option.map_eq_some_iff.1 h
  simp [sizeOf, typeInfo, hi]
theorem run_isAgg {P : Program} {t : TypeId} {b : Bool} (h : aggOf P t = some b) (w : World) : (isAgg t).run P w = .ok b w := by
  unfold aggOf at h
  obtain ⟨d, hd, rfl⟩ := Option.map_eq_some_iff.1 h
  simp [isAgg, underlying, hd]
  cases d <;> rfl
def fldOf (P : Program) (s : TypeId) (f : Nat) : Option (Nat × TypeId) :=
  match P.underlying s with
  | some (.struct fs) => fs[f]?.map fun x => (x.offset, x.type)
  | _ => none
end Go.Fw
/- Operations on memory: objects made, read, written; slices that nobody writes any more. -/
set_option autoImplicit false
namespace Go.Fw
/-! ### From an array of one's own to data -/
def frzV (σ : St) : AVal → Option (DVal × St)
  | .d x => some (x, σ)
  | .nils => some (.list [], σ)
  | .ref l t n =>
    match σ.H l t with
    | .arr _ xs => bif Nat.ble l σ.lev && Nat.beq n xs.length then some (.list xs, { σ with H := σ.H.set l t (.frz xs) }) else none
    | .frz xs => bif Nat.beq n xs.length then some (.list xs, σ) else none
    | _ => none
  | _ => none
/-- The same state but for frozen arrays. -/
structure Frz (E : Env) (w : World) (K : Kt) (σ σ' : St) : Prop where
  n : σ'.n = σ.n
  lev : σ'.lev = σ.lev
  T : σ'.T = σ.T
  keeps : Keeps (badOf E.S0 K σ.H) w (badOf E.S0 K σ'.H) w
  rel : ∀ a, Rel E σ a w K → Rel E σ' a w K
theorem Frz.refl {E : Env} {w : World} {K : Kt} (σ : St) : Frz E w K σ σ := ⟨rfl, rfl, rfl, Keeps.rfl', fun _ h => h⟩
theorem Frz.trans {E : Env} {w : World} {K : Kt} {σ1 σ2 σ3 : St} (h : Frz E w K σ1 σ2) (k : Frz E w K σ2 σ3) : Frz E w K σ1 σ3 :=
  ⟨k.n.trans h.n, k.lev.trans h.lev, k.T.trans h.T, h.keeps.trans k.keeps (Nat.le_refl _), fun a r => k.rel a (h.rel a r)⟩
theorem beq_eq {a b : Nat} (h : Nat.beq a b = true) : a = b := Nat.eq_of_beq_eq_true h
theorem Rd.nil {bad : Nat → Prop} {w : World} {a : Option Addr} {cap : Nat} : Rd bad w (.list []) (.slice a 0 cap) :=
  .list (xs := []) (sz := 0) (b := 0) (o := 0) (f := fun _ => default) (by simp) (Nat.zero_le _) (by simp) (by simp) (by simp) (by simp)
theorem Rd.of_arr {bad bad' : Nat → Prop} {w w' : World} {sz cap : Nat} {xs : List DVal} {a : Option Addr} (hs : ∀ x ∈ xs, x.cells.length = sz) (hc : xs.length ≤ cap) (h : ArrAt bad w w sz xs cap a) (hk : Keeps bad w bad' w')
    (hb : ∀ ad, a = some ad → ¬ bad' ad.block ∧ w'.heap[ad.block]? = w.heap[ad.block]?) : Rd bad' w' (.list xs) (.slice a xs.length cap) := by
  cases a with
  | none =>
    obtain ⟨rfl, _⟩ := h
    exact Rd.nil
  | some ad =>
    obtain ⟨hsp, vs, ty, fz, h1, h2, h3, h4⟩ := h
    obtain ⟨hb1, hb2⟩ := hb ad rfl
    have hg : ∀ j, j < (xs.flatMap DVal.cells).length → ∃ u, vs[ad.off + j]? = some u ∧ u.oneCell' = true ∧ Rd bad w (xs.flatMap DVal.cells)[j]! u := fun j hj => by
      have hgj : (xs.flatMap DVal.cells)[j]? = some (xs.flatMap DVal.cells)[j]! := by
        rw [List.getElem?_eq_getElem hj, List.getElem!_eq_getElem?_getD, List.getElem?_eq_getElem hj]; rfl
      exact h4 j _ hgj
    refine .list (sz := sz) (b := ad.block) (o := ad.off) (f := fun j => (vs[ad.off + j]?).getD default) hs hc (fun j hj => ⟨hb1, ?_⟩) (fun j hj => ?_) (fun j c hcj => ?_) (fun _ => by cases ad; simp_all)
    · obtain ⟨u, hu, _⟩ := hg j hj
      unfold World.cell?
      simp only [hb2, h1]
      simp [hu]
    · obtain ⟨u, hu, hu1, _⟩ := hg j hj
      simp [hu, hu1]
    · obtain ⟨u, hu, hu1, hu2⟩ := h4 j c hcj
      simp only [hu, Option.getD_some]
      exact hu2.mono hk
theorem frzV_ok {E : Env} {σ σ' : St} {a : Act} {w : World} {K : Kt} {x : AVal} {y : DVal} (h : Rel E σ a w K) (hf : frzV σ x = some (y, σ')) :
    Frz E w K σ σ' ∧ ∀ v, Rv (badOf E.S0 K σ.H) K w x v → Rd (badOf E.S0 K σ'.H) w y v := by
  cases x with
  | d z =>
    simp only [frzV, Option.some.injEq, Prod.mk.injEq] at hf
    obtain ⟨rfl, rfl⟩ := hf
    exact ⟨Frz.refl _, fun v hv => by cases hv; assumption⟩
  | nils =>
    simp only [frzV, Option.some.injEq, Prod.mk.injEq] at hf
    obtain ⟨rfl, rfl⟩ := hf
    exact ⟨Frz.refl _, fun v hv => by cases hv; exact Rd.nil⟩
  | ref l t n =>
    simp only [frzV] at hf
    have hob := h.hr.ob l t
    cases ho : σ.H l t with
    | arr sz xs =>
      rw [ho] at hf hob
      simp only at hf
      cases hc : (Nat.ble l σ.lev && Nat.beq n xs.length) with
      | false => rw [hc] at hf; cases hf
      | true =>
        rw [hc] at hf
        simp only [cond_true, Option.some.injEq, Prod.mk.injEq] at hf
        obtain ⟨rfl, rfl⟩ := hf
        simp only [Bool.and_eq_true] at hc
        obtain ⟨hc1, hc2⟩ := hc
        have hl : l ≤ σ.lev := Nat.le_of_ble_eq_true hc1
        obtain rfl := beq_eq hc2
        obtain ⟨hn, ad, cap, hK, hs, hcap, hat⟩ := hob
        have hkp : Keeps (badOf E.S0 K σ.H) w (badOf E.S0 K (σ.H.set l t (.frz xs))) w :=
          Keeps.write h.hr (Ch.refl _ w) (fun _ _ _ => rfl) (fun b hb => hb.elim)
        have hrd : Rd (badOf E.S0 K (σ.H.set l t (.frz xs))) w (.list xs) (.slice ad xs.length cap) := Rd.of_arr hs hcap hat hkp (fun ad' he => by
          subst he
          refine ⟨?_, rfl⟩
          have hown : (σ.H l t).own K l t ad'.block := by
            rw [ho]
            obtain ⟨h1, _⟩ := hat
            obtain ⟨b0, o0, s0⟩ := ad'
            simp only at h1
            subst h1
            exact ⟨o0, _, hK⟩
          rintro (e | ⟨l2, t2, e⟩)
          · exact h.hr.sep _ _ _ hown e
          · by_cases c : l2 = l ∧ t2 = t
            · obtain ⟨rfl, rfl⟩ := c
              rw [Hp.set_same] at e
              exact e
            · rw [Hp.set_ne c] at e
              exact c (h.hr.inj _ _ _ _ _ e hown))
        refine ⟨⟨rfl, rfl, rfl, hkp, fun a' h' => ?_⟩, fun v hv => ?_⟩
        · have hr' := h'.hr.write (l := l) (t := t) (o' := .frz xs) (Ch.refl _ w) (fun _ _ _ _ hz => hz) (fun _ _ _ => rfl) (fun b hb => hb.elim) ⟨ad, cap, sz, hK, hs, hrd⟩ rfl hl
          exact ⟨h'.size, h'.defs, fun j => (h'.tm j).mono hkp (fun _ _ _ _ hz => hz), h'.tb, hr'⟩
        · cases hv with
          | ref hk =>
            rw [hK] at hk
            simp only [Option.some.injEq, Prod.mk.injEq] at hk
            obtain ⟨rfl, rfl, _⟩ := hk
            exact hrd
    | frz xs =>
      rw [ho] at hf hob
      simp only at hf
      cases hc : Nat.beq n xs.length with
      | false => rw [hc] at hf; cases hf
      | true =>
        rw [hc] at hf
        simp only [cond_true, Option.some.injEq, Prod.mk.injEq] at hf
        obtain ⟨rfl, rfl⟩ := hf
        obtain rfl := beq_eq hc
        refine ⟨Frz.refl _, fun v hv => ?_⟩
        obtain ⟨ad, cap, sz, hK, _, hrd⟩ := hob
        cases hv with
        | ref hk =>
          rw [hK] at hk
          simp only [Option.some.injEq, Prod.mk.injEq] at hk
          obtain ⟨rfl, rfl, _⟩ := hk
          exact hrd
    | _ => rw [ho] at hf; cases hf
  | _ => simp [frzV] at hf
/-- Several values. -/
def frzL (σ : St) : List AVal → Option (List DVal × St)
  | [] => some ([], σ)
  | x :: r => (frzV σ x).bind fun p => (frzL p.2 r).map fun q => (p.1 :: q.1, q.2)
theorem frzL_ok {E : Env} {w : World} {K : Kt} {a : Act} : ∀ {xs : List AVal} {σ σ' : St} {ys : List DVal}, Rel E σ a w K → frzL σ xs = some (ys, σ') →
    Frz E w K σ σ' ∧ ys.length = xs.length ∧ ∀ (j : Nat) (x : AVal) (y : DVal) (v : Value), xs[j]? = some x → ys[j]? = some y → Rv (badOf E.S0 K σ.H) K w x v → Rd (badOf E.S0 K σ'.H) w y v
  | [], σ, σ', ys, h, hf => by
    simp only [frzL, Option.some.injEq, Prod.mk.injEq] at hf
    obtain ⟨rfl, rfl⟩ := hf
    exact ⟨Frz.refl _, rfl, by simp⟩
  | x :: r, σ, σ', ys, h, hf => by
    simp only [frzL] at hf
    obtain ⟨⟨y, σ1⟩, h1, hf⟩ := Option.bind_eq_some_iff.1 hf
    obtain ⟨⟨ys1, σ2⟩, h2, he⟩ := Option.map_eq_some_iff.1 hf
    simp only [Prod.mk.injEq] at he
    obtain ⟨rfl, rfl⟩ := he
    obtain ⟨f1, g1⟩ := frzV_ok h h1
    have hr1 := f1.rel a h
    obtain ⟨f2, hl, g2⟩ := frzL_ok hr1 h2
    refine ⟨f1.trans f2, by simp [hl], fun j x' y' v hx hy hv => ?_⟩
    cases j with
    | zero =>
      simp only [List.getElem?_cons_zero, Option.some.injEq] at hx hy
      subst hx hy
      exact (g1 v hv).mono f2.keeps
    | succ j =>
      simp only [List.getElem?_cons_succ] at hx hy
      exact g2 j x' y' v hx hy (hv.mono f1.keeps (fun _ _ _ _ hz => hz))

/-! ### New objects -/
def overK (K : Kt) (l t n : Nat) (z : Option Addr × Nat × Nat) : Kt := fun l' t' n' => bif l' == l && t' == t then (bif n' == n then some z else none) else K l' t' n'
theorem overK_ne {K : Kt} {l t n : Nat} {z : Option Addr × Nat × Nat} (l' t' : Nat) (h : ¬ (l' = l ∧ t' = t)) : overK K l t n z l' t' = K l' t' := by
  have : (l' == l && t' == t) = false := by simpa using h
  funext n'
  simp [overK, this]
theorem overK_at {K : Kt} {l t n : Nat} {z : Option Addr × Nat × Nat} (n' : Nat) : overK K l t n z l t n' = if n' = n then some z else none := by
  simp only [overK, BEq.rfl, Bool.and_self, cond_true]
  by_cases e : n' = n
  · simp [e]
  · have : (n' == n) = false := by simpa using e
    simp [this, e]
theorem Ch.alloc (w : World) (o : Obj) : Ch (fun _ => False) w (w.alloc o) :=
  ⟨rfl, rfl, rfl, by simp, Nat.le_refl _, fun b hb _ => RowKit.Below.heap_alloc w o b hb⟩
theorem heap_alloc_new (w : World) (o : Obj) : (w.alloc o).heap[w.heap.size]? = some o := by
  show (w.heap.push o)[w.heap.size]? = _
  simp
/-- A box is made: its cells are told abstractly. -/
theorem Rel.box {E : Env} {σ : St} {a : Act} {w : World} {K : Kt} {d : Nat} {cs : List AVal} {vs : List Value} {ty : TypeId} (h : Rel E σ a w K) (hd : okDst σ.n (some d) = true) (hl : vs.length = cs.length)
    (h1 : ∀ (j : Nat) (x : Value), vs[j]? = some x → x.oneCell' = true) (hr : ∀ (j : Nat) (c : AVal) (x : Value), cs[j]? = some c → vs[j]? = some x → Rv (badOf E.S0 K σ.H) K w c x) (hb : AVal.belL (σ.lev + 1) cs = true) :
    ∃ K', Rel E (σ.alloc d (.box (AVal.purgeL σ.lev d cs)) (.ptr σ.lev d 0)) (a.put (some d) (.pointer (some ⟨w.heap.size, 0, none⟩))) (w.alloc (.cells ⟨vs⟩ ty)) K' := by
  let z : Option Addr × Nat × Nat := (some ⟨w.heap.size, 0, none⟩, 0, 0)
  have hK' : ∀ l' t', ¬ (l' = σ.lev ∧ t' = d) → overK K σ.lev d 0 z l' t' = K l' t' := fun l' t' hn => overK_ne l' t' hn
  have hown : ∀ b, (AObj.box (AVal.purgeL σ.lev d cs)).own (overK K σ.lev d 0 z) σ.lev d b → w.heap.size ≤ b := fun b hb' => by
    obtain ⟨z', hz⟩ := hb'
    rw [overK_at] at hz
    simp only [if_true, Option.some.injEq, Prod.mk.injEq, Addr.mk.injEq, z] at hz
    omega
  have hkp := Keeps.alloc (o' := .box (AVal.purgeL σ.lev d cs)) h.hr (Ch.alloc w (.cells ⟨vs⟩ ty)) hK' hown
  refine ⟨overK K σ.lev d 0 z, h.alloc hd (Ch.alloc w _) hK' hown ?_ ?_ (.ptr (b := w.heap.size) (by rw [overK_at]; rfl)) ?_⟩
  · refine ⟨fun n hn => by rw [overK_at, if_neg (by omega)], w.heap.size, vs, ty, (0, 0), by rw [overK_at]; rfl, heap_alloc_new w _, by rw [AVal.purgeL_eq]; simpa using hl, h1, fun j c x hc hx => ?_⟩
    rw [AVal.purgeL_eq, List.getElem?_map] at hc
    obtain ⟨c0, hc0, rfl⟩ := Option.map_eq_some_iff.1 hc
    exact (hr j c0 x hc0 hx).purge hkp (fun l t n z hn hz => by rw [hK' l t hn]; exact hz)
  · exact AVal.belL_purge _ hb
  · simp [AVal.bel, Nat.blt_eq]
/-- An array is made, with room. -/
theorem Rel.arr {E : Env} {σ : St} {a : Act} {w w' : World} {K : Kt} {d : Nat} {sz : Nat} {xs : List DVal} {ad : Option Addr} {cap : Nat} (h : Rel E σ a w K) (hd : okDst σ.n (some d) = true) (hch : Ch (fun _ => False) w w')
    (hs : ∀ x ∈ xs, x.cells.length = sz) (hc : xs.length ≤ cap) (hat : ArrAt (badOf E.S0 K σ.H) w w' sz xs cap ad) (hnew : ∀ b, ad = some b → w.heap.size ≤ b.block) :
    ∃ K', Rel E (σ.alloc d (.arr sz xs) (.ref σ.lev d xs.length)) (a.put (some d) (.slice ad xs.length cap)) w' K' := by
  let z : Option Addr × Nat × Nat := (ad, cap, sz)
  have hK' : ∀ l' t', ¬ (l' = σ.lev ∧ t' = d) → overK K σ.lev d xs.length z l' t' = K l' t' := fun l' t' hn => overK_ne l' t' hn
  have hown : ∀ b, (AObj.arr sz xs).own (overK K σ.lev d xs.length z) σ.lev d b → w.heap.size ≤ b := fun b hb' => by
    obtain ⟨o, z', hz⟩ := hb'
    rw [overK_at] at hz
    simp only [if_true, Option.some.injEq, Prod.mk.injEq, z] at hz
    exact hnew _ hz.1
  have hkp := Keeps.alloc (o' := .arr sz xs) h.hr hch hK' hown
  refine ⟨overK K σ.lev d xs.length z, h.alloc hd hch hK' hown ?_ rfl (.ref (by rw [overK_at, if_pos rfl])) ?_⟩
  · refine ⟨fun n hn => by rw [overK_at, if_neg (by omega)], ad, cap, by rw [overK_at, if_pos rfl], hs, hc, ?_⟩
    cases ad with
    | none => exact hat
    | some b =>
      obtain ⟨h1, vs, ty, fz, h2, h3, h4, h5⟩ := hat
      refine ⟨h1, vs, ty, fz, h2, h3, h4, fun j c hcj => ?_⟩
      obtain ⟨u, hu, hu1, hu2⟩ := h5 j c hcj
      exact ⟨u, hu, hu1, hu2.mono hkp⟩
  · simp [AVal.bel, Nat.blt_eq]
/-- The same for an array that somebody else has made: its elements are told behind it. -/
theorem Rel.arr2 {E : Env} {σ : St} {a : Act} {w w' : World} {K : Kt} {d : Nat} {sz : Nat} {xs : List DVal} {ad : Option Addr} {cap : Nat} (h : Rel E σ a w K) (hd : okDst σ.n (some d) = true) (hch : Ch (fun _ => False) w w')
    (hs : ∀ x ∈ xs, x.cells.length = sz) (hc : xs.length ≤ cap) (hat : ArrAt (fun b => badOf E.S0 K σ.H b ∨ ∃ x, ad = some x ∧ b = x.block) w' w' sz xs cap ad) (hnew : ∀ b, ad = some b → w.heap.size ≤ b.block) :
    ∃ K', Rel E (σ.alloc d (.arr sz xs) (.ref σ.lev d xs.length)) (a.put (some d) (.slice ad xs.length cap)) w' K' := by
  let z : Option Addr × Nat × Nat := (ad, cap, sz)
  have hK' : ∀ l' t', ¬ (l' = σ.lev ∧ t' = d) → overK K σ.lev d xs.length z l' t' = K l' t' := fun l' t' hn => overK_ne l' t' hn
  have hown2 : ∀ b, (AObj.arr sz xs).own (overK K σ.lev d xs.length z) σ.lev d b → ∃ x, ad = some x ∧ b = x.block := fun b hb' => by
    obtain ⟨o, z', hz⟩ := hb'
    rw [overK_at] at hz
    simp only [if_true, Option.some.injEq, Prod.mk.injEq, z] at hz
    exact ⟨_, hz.1, rfl⟩
  have hown : ∀ b, (AObj.arr sz xs).own (overK K σ.lev d xs.length z) σ.lev d b → w.heap.size ≤ b := fun b hb' => by
    obtain ⟨x, hx, rfl⟩ := hown2 b hb'
    exact hnew _ hx
  have hkp : Keeps (fun b => badOf E.S0 K σ.H b ∨ ∃ x, ad = some x ∧ b = x.block) w' (badOf E.S0 (overK K σ.lev d xs.length z) (σ.H.alloc σ.lev d (.arr sz xs))) w' := by
    intro b hb hbad
    refine ⟨?_, rfl⟩
    rintro (e | ⟨l2, t2, e⟩)
    · exact hbad (.inl (.inl e))
    · by_cases c : l2 = σ.lev ∧ t2 = d
      · obtain ⟨rfl, rfl⟩ := c
        rw [Hp.alloc_same] at e
        exact hbad (.inr (hown2 b e))
      · rw [h.hr.alloc_at l2 t2 c, AObj.own_purge, AObj.own_congr (hK' l2 t2 c)] at e
        exact hbad (.inl (.inr ⟨_, _, e⟩))
  refine ⟨overK K σ.lev d xs.length z, h.alloc hd hch hK' hown ?_ rfl (.ref (by rw [overK_at, if_pos rfl])) ?_⟩
  · refine ⟨fun n hn => by rw [overK_at, if_neg (by omega)], ad, cap, by rw [overK_at, if_pos rfl], hs, hc, ?_⟩
    cases ad with
    | none => exact hat
    | some b =>
      obtain ⟨h1, vs, ty, fz, h2, h3, h4, h5⟩ := hat
      refine ⟨h1, vs, ty, fz, h2, h3, h4, fun j c hcj => ?_⟩
      obtain ⟨u, hu, hu1, hu2⟩ := h5 j c hcj
      exact ⟨u, hu, hu1, hu2.mono hkp⟩
  · simp [AVal.bel, Nat.blt_eq]
end Go.Fw
/- Operations on memory: variables made, read, written; fields. -/
set_option autoImplicit false
namespace Go.Fw
def P2 {α β : Type} (R : α → β → Prop) (xs : List α) (ys : List β) : Prop := ys.length = xs.length ∧ ∀ (j : Nat) (x : α) (y : β), xs[j]? = some x → ys[j]? = some y → R x y
theorem P2.append {α β : Type} {R : α → β → Prop} {xs xs' : List α} {ys ys' : List β} (h : P2 R xs ys) (k : P2 R xs' ys') : P2 R (xs ++ xs') (ys ++ ys') := by
  refine ⟨by simp [h.1, k.1], fun j x y hx hy => ?_⟩
  rw [List.getElem?_append] at hx hy
  rw [h.1] at hy
  by_cases e : j < xs.length
  · rw [if_pos e] at hx hy; exact h.2 j x y hx hy
  · rw [if_neg e] at hx hy; exact k.2 _ x y hx hy
theorem P2.take {α β : Type} {R : α → β → Prop} {xs : List α} {ys : List β} (h : P2 R xs ys) (n : Nat) : P2 R (xs.take n) (ys.take n) := by
  refine ⟨by simp [h.1], fun j x y hx hy => ?_⟩
  rw [List.getElem?_take] at hx hy
  by_cases e : j < n
  · rw [if_pos e] at hx hy; exact h.2 j x y hx hy
  · rw [if_neg e] at hx; cases hx
theorem P2.drop {α β : Type} {R : α → β → Prop} {xs : List α} {ys : List β} (h : P2 R xs ys) (n : Nat) : P2 R (xs.drop n) (ys.drop n) := by
  refine ⟨by simp [h.1], fun j x y hx hy => ?_⟩
  rw [List.getElem?_drop] at hx hy
  exact h.2 _ x y hx hy
theorem P2.mono {α β : Type} {R S : α → β → Prop} {xs : List α} {ys : List β} (h : P2 R xs ys) (k : ∀ x y, R x y → S x y) : P2 S xs ys := ⟨h.1, fun j x y hx hy => k x y (h.2 j x y hx hy)⟩
theorem P2.map {α β γ : Type} {R : γ → β → Prop} {f : α → γ} {xs : List α} {ys : List β} (h : P2 (fun x y => R (f x) y) xs ys) : P2 R (xs.map f) ys := by
  refine ⟨by simp [h.1], fun j x y hx hy => ?_⟩
  rw [List.getElem?_map] at hx
  obtain ⟨z, hz, rfl⟩ := Option.map_eq_some_iff.1 hx
  exact h.2 j z y hz hy

theorem storeCells_ok (P : Program) (g : Nat) (t : TypeId) (fz : Nat × Nat) : ∀ (vs : List Value) (o i : Nat) (cur : List Value) (w : World), w.heap[g]? = some (.cells ⟨cur⟩ t fz) → (∀ j, j < cur.length → ¬ (fz.1 ≤ j ∧ j < fz.2)) →
    o + i + vs.length ≤ cur.length → (∀ v ∈ vs, v.oneCell' = true) → ∃ w', (storeCells ⟨g, o, none⟩ vs i).run P w = .ok () w' ∧
      w'.heap[g]? = some (.cells ⟨cur.take (o + i) ++ vs ++ cur.drop (o + i + vs.length)⟩ t fz) ∧ Ch (fun b => b = g) w w'
  | [], o, i, cur, w, hg, _, _, _ => ⟨w, rfl, by simp [hg], Ch.refl _ w⟩
  | v :: rest, o, i, cur, w, hg, hf, hl, h1 => by
    have hi : o + i < cur.length := by simp at hl; omega
    have hadd : (⟨g, o, none⟩ : Addr).add i = ⟨g, o + i, none⟩ := by unfold Addr.add; split <;> simp_all
    have hcell : w.cell? ⟨g, o + i, none⟩ = some cur[o + i] := by simp [World.cell?, hg, hi]
    have hfro : w.frozen? ⟨g, o + i, none⟩ = false := by
      have := hf (o + i) hi
      obtain ⟨lo, hi'⟩ := fz
      simp only [World.frozen?, hg, Bool.and_eq_false_iff, decide_eq_false_iff_not]
      simp only at this
      omega
    have hst : (store ((⟨g, o, none⟩ : Addr).add i) v).run P w = .ok () (w.setCell ⟨g, o + i, none⟩ v) := by
      rw [hadd, run_store P w _ v _ (h1 v (by simp)), hcell]
      simp [hfro]
    have hheap : (w.setCell ⟨g, o + i, none⟩ v).heap[g]? = some (.cells ⟨cur.set (o + i) v⟩ t fz) := by
      simp only [World.setCell, Array.getElem?_modify, if_true, hg, Option.map_some]
      simp
    have hch : Ch (fun b => b = g) w (w.setCell ⟨g, o + i, none⟩ v) := ⟨rfl, rfl, rfl, by simp, Nat.le_refl _, fun b hb hn => RowKit.Below.heap_setCell w _ v b hn⟩
    obtain ⟨w', hw1, hw2, hw3⟩ := storeCells_ok P g t fz rest o (i + 1) (cur.set (o + i) v) (w.setCell ⟨g, o + i, none⟩ v) hheap (by simpa using hf) (by simp at hl ⊢; omega) (fun x hx => h1 x (by simp [hx]))
    refine ⟨w', by simp only [storeCells, Sem.run_bind, hst, Result.andThen_ok, hw1], ?_, hch.trans hw3 (fun x hx => .inl hx)⟩
    rw [hw2]
    have e := list_seg_step cur (o + i) v rest (by simp at hl ⊢; omega)
    simp only [Option.some.injEq, Obj.cells.injEq, Array.mk.injEq, and_true]
    rw [show o + (i + 1) = o + i + 1 by omega, e]
    rfl

/-! ### The cells of a value -/
def avCells : AVal → Option (List AVal)
  | .d (.agg cs) => some (cs.map .d)
  | .any => none
  | .tup _ => none
  | x => some [x]
theorem avCells_ok {bad : Nat → Prop} {K : Kt} {w : World} {x : AVal} {v : Value} {cs : List AVal} (h : avCells x = some cs) (hr : Rv bad K w x v) :
    P2 (Rv bad K w) cs v.cells.toList ∧ (∀ (j : Nat) (y : Value), v.cells.toList[j]? = some y → y.oneCell' = true) := by
  have one : ∀ {y : AVal} {u : Value}, u.cells = #[u] → u.oneCell' = true → Rv bad K w y u → P2 (Rv bad K w) [y] u.cells.toList ∧ (∀ (j : Nat) (z : Value), u.cells.toList[j]? = some z → z.oneCell' = true) := by
    intro y u h1 h2 h3
    rw [h1]
    refine ⟨⟨rfl, fun j a b ha hb => ?_⟩, fun j z hz => ?_⟩
    · cases j with
      | zero => simp at ha hb; subst ha hb; exact h3
      | succ j => simp at ha
    · cases j with
      | zero => simp at hz; subst hz; exact h2
      | succ j => simp at hz
  cases hr with
  | any => simp [avCells] at h
  | nils => simp only [avCells, Option.some.injEq] at h; subst h; exact one rfl rfl .nils
  | d hd =>
    cases hd with
    | v hv =>
      simp only [avCells, Option.some.injEq] at h
      subst h
      refine one ?_ hv (.d (.v hv))
      cases v <;> first | rfl | simp [Value.oneCell'] at hv
    | agg hl h1 h2 =>
      rename_i ds vs
      simp only [avCells, Option.some.injEq] at h
      subst h
      exact ⟨P2.map ⟨hl, fun j a b ha hb => .d (h2 j a b ha hb)⟩, h1⟩
    | list hs hc hw h1 h2 ha => simp only [avCells, Option.some.injEq] at h; subst h; exact one rfl rfl (.d (.list hs hc hw h1 h2 ha))
  | tup => simp [avCells] at h
  | ptr hk => simp only [avCells, Option.some.injEq] at h; subst h; exact one rfl rfl (.ptr hk)
  | ref hk => simp only [avCells, Option.some.injEq] at h; subst h; exact one rfl rfl (.ref hk)
  | elt hk => simp only [avCells, Option.some.injEq] at h; subst h; exact one rfl rfl (.elt hk)
  | cptr h1 h2 h3 => simp only [avCells, Option.some.injEq] at h; subst h; exact one rfl rfl (.cptr h1 h2 h3)
  | clo h1 h2 => simp only [avCells, Option.some.injEq] at h; subst h; exact one rfl rfl (.clo h1 h2)
theorem avCells_bel {m : Nat} {x : AVal} {cs : List AVal} (h : avCells x = some cs) (hb : x.bel m = true) : AVal.belL m cs = true := by
  cases x with
  | any => simp [avCells] at h
  | tup => simp [avCells] at h
  | d y =>
    cases y with
    | agg ds =>
      simp only [avCells, Option.some.injEq] at h
      subst h
      refine (AVal.belL_iff _ _).2 (fun z hz => ?_)
      obtain ⟨u, _, rfl⟩ := List.mem_map.1 hz
      rfl
    | _ => simp only [avCells, Option.some.injEq] at h; subst h; simp [AVal.belL, AVal.bel]
  | _ => simp only [avCells, Option.some.injEq] at h; subst h; simp [AVal.belL]; exact hb

def stBox (σ : St) (d : Nat) (x : AVal) : Option St :=
  (avCells x).map fun cs => σ.alloc d (.box (AVal.purgeL σ.lev d cs)) (.ptr σ.lev d 0)
theorem box_ok {P : Program} {σ σ' : St} {o : Oper} {ty : TypeId} {x : Operand} {d : Nat} (ho : o.op = .box ty x) (hdd : o.dst = some d) (hd : okDst σ.n o.dst = true) (h : stBox σ d (evO σ x) = some σ') : OpOk P o σ σ' := by
  intro E a w K hR
  obtain ⟨cs, hcs, rfl⟩ := Option.map_eq_some_iff.1 h
  obtain ⟨h1, h2⟩ := avCells_ok hcs (hR.ev x)
  rw [hdd] at hd
  obtain ⟨K', hK'⟩ := hR.box (ty := ty) hd h1.1 h2 h1.2 (avCells_bel hcs (hR.evb x))
  refine ⟨_, _, K', .inl ?_, by rw [hdd]; exact hK'⟩
  simp [execOp, ho, Instr.box, newVar, newRow]

def cellC (x : Value) : AVal := match x with | .slice none 0 0 => .nils | x => .d (constD x)
def zeroC (P : Program) (t : TypeId) : Option (List Value) := ((P.info? t).bind (·.zero)).map fun z => z.cells.toList
theorem Rv.cellC {bad : Nat → Prop} {K : Kt} {w : World} {x : Value} (h : x.oneCell' = true) : Rv bad K w (Fw.cellC x) x := by
  unfold Fw.cellC
  split
  · exact .nils
  · exact .d (Rd.const h)
def stAlloc (P : Program) (σ : St) (d : Nat) (ty : TypeId) : Option St :=
  (zeroC P ty).bind fun vs => bif vs.all (·.oneCell') then some (σ.alloc d (.box (AVal.purgeL σ.lev d (vs.map cellC))) (.ptr σ.lev d 0)) else none
theorem alloc_ok {P : Program} {σ σ' : St} {o : Oper} {ty : TypeId} {d : Nat} (ho : o.op = .alloc ty) (hdd : o.dst = some d) (hd : okDst σ.n o.dst = true) (h : stAlloc P σ d ty = some σ') : OpOk P o σ σ' := by
  intro E a w K hR
  obtain ⟨vs, hvs, h⟩ := Option.bind_eq_some_iff.1 h
  obtain ⟨z, hz, rfl⟩ := Option.map_eq_some_iff.1 hvs
  obtain ⟨i, hi, hiz⟩ := Option.bind_eq_some_iff.1 hz
  cases hall : z.cells.toList.all (·.oneCell') with
  | false => rw [hall] at h; cases h
  | true =>
    rw [hall] at h
    simp only [cond_true, Option.some.injEq] at h
    subst h
    rw [List.all_eq_true] at hall
    rw [hdd] at hd
    have h1 : ∀ (j : Nat) (x : Value), z.cells.toList[j]? = some x → x.oneCell' = true := fun j x hx => hall x (List.mem_of_getElem? hx)
    obtain ⟨K', hK'⟩ := hR.box (ty := ty) (cs := z.cells.toList.map cellC) (vs := z.cells.toList) hd (by simp) h1 (fun j c x hc hx => by
      rw [List.getElem?_map, hx] at hc
      simp only [Option.map_some, Option.some.injEq] at hc
      subst hc
      exact Rv.cellC (h1 j x hx)) ((AVal.belL_iff _ _).2 (fun y hy => by
        obtain ⟨u, _, rfl⟩ := List.mem_map.1 hy
        unfold cellC
        split <;> rfl))
    refine ⟨_, _, K', .inl ?_, by rw [hdd]; exact hK'⟩
    simp [execOp, ho, Instr.alloc, zeroValue, typeInfo, hi, hiz, newVar, newRow]

/-! ### Reading -/
def ldCells (agg : Bool) (n : Nat) (σ : St) (cs : List AVal) : Option (AVal × St) :=
  bif agg then (bif Nat.ble n cs.length then (frzL σ (cs.take n)).map fun p => (.d (.agg p.1), p.2) else none)
  else cs.head?.map fun x => (x, σ)
def notAgg : DVal → Bool
  | .agg _ => false
  | _ => true
def ldData (agg : Bool) (n : Nat) (cs : List DVal) : Option DVal :=
  bif agg then (bif Nat.ble n cs.length then some (.agg (cs.take n)) else none) else cs.head?
def stLoad (P : Program) (σ : St) (dst : Option Tmp) (ty : TypeId) (x : AVal) : Option St :=
  (szOf P ty).bind fun n => (aggOf P ty).bind fun g =>
  match x with
  | .ptr l t off =>
    match σ.H l t with
    | .box cs => (ldCells g n σ (cs.drop off)).map fun p => p.2.put dst p.1
    | _ => none
  | .cptr cs => (ldData g n cs).map fun y => σ.put dst (.d y)
  | .elt l t k i j =>
    match σ.H l t with
    | .arr _ xs => bif Nat.beq k xs.length then (xs[i]?).bind fun e => (ldData g n (e.cells.drop j)).map fun y => σ.put dst (.d y) else none
    | .frz xs => bif Nat.beq k xs.length then (xs[i]?).bind fun e => (ldData g n (e.cells.drop j)).map fun y => σ.put dst (.d y) else none
    | _ => none
  | _ => none
theorem run_loadVar {P : Program} {w : World} {ty : TypeId} {n : Nat} {g : Bool} (hn : szOf P ty = some n) (hg : aggOf P ty = some g) {b o : Nat} {vs : List Value} (hl : g = true → vs.length = n) (hl' : g = false → vs.length = 1)
    (hc : ∀ (j : Nat) (u : Value), vs[j]? = some u → w.cell? ⟨b, o + j, none⟩ = some u) : (loadVar ty ⟨b, o, none⟩).run P w = .ok (if g then .agg ⟨vs⟩ else vs.headD default) w := by
  cases g with
  | true =>
    have h := run_loadCells_list (P := P) w ⟨b, o, none⟩ vs (fun j v hv => by rw [Addr.add_mid]; exact hc j v hv)
    rw [hl rfl] at h
    simp [loadVar, run_isAgg hg, run_sizeOf hn, h]
  | false =>
    have hl1 := hl' rfl
    match vs, hl1 with
    | [u], _ =>
      have := hc 0 u rfl
      simp only [Nat.add_zero] at this
      simp [loadVar, run_isAgg hg, this]
end Go.Fw
/- Reading and writing variables. -/
set_option autoImplicit false
namespace Go.Fw
theorem flat_get {sz : Nat} : ∀ {xs : List DVal} (_ : ∀ x ∈ xs, x.cells.length = sz) {i : Nat} {e : DVal} (_ : xs[i]? = some e) (j : Nat), j < sz → (xs.flatMap DVal.cells)[i * sz + j]? = e.cells[j]?
  | [], _, i, e, hi, _, _ => by simp at hi
  | x :: r, hs, i, e, hi, j, hj => by
    have hx := hs x (by simp)
    simp only [List.flatMap_cons]
    cases i with
    | zero =>
      simp only [List.getElem?_cons_zero, Option.some.injEq] at hi
      subst hi
      rw [List.getElem?_append_left (by omega)]
      simp
    | succ i =>
      simp only [List.getElem?_cons_succ] at hi
      rw [List.getElem?_append_right (by rw [hx, Nat.succ_mul]; omega), hx]
      have := flat_get (fun y hy => hs y (by simp [hy])) hi j hj
      rw [← this]
      congr 1
      rw [Nat.succ_mul]; omega
theorem flat_len {sz : Nat} : ∀ {xs : List DVal} (_ : ∀ x ∈ xs, x.cells.length = sz), (xs.flatMap DVal.cells).length = xs.length * sz
  | [], _ => by simp
  | x :: r, hs => by
    have hx := hs x (by simp)
    have ih := flat_len (xs := r) (fun y hy => hs y (List.mem_cons_of_mem _ hy))
    simp only [List.flatMap_cons, List.length_append, hx, ih, List.length_cons]
    rw [Nat.succ_mul]; omega

theorem Addr.addo (b o n : Nat) : (⟨b, o, none⟩ : Addr).add n = ⟨b, o + n, none⟩ := Go.Addr.add_mid b o n

theorem ld_run {P : Program} {E : Env} {σ : St} {a : Act} {w : World} {K : Kt} {o : Oper} {ty : TypeId} {x : Operand} {n : Nat} {g : Bool} {b off : Nat} {cs : List DVal} {vs : List Value} {y : DVal} (hR : Rel E σ a w K) (ho : o.op = .load ty x) (hd : okDst σ.n o.dst = true)
    (hn : szOf P ty = some n) (hg : aggOf P ty = some g) (hx : a.eval x = .pointer (some ⟨b, off, none⟩)) (hc : ∀ (j : Nat) (u : Value), vs[j]? = some u → w.cell? ⟨b, off + j, none⟩ = some u)
    (h1 : ∀ (j : Nat) (u : Value), vs[j]? = some u → u.oneCell' = true) (hp : P2 (Rd (badOf E.S0 K σ.H) w) cs vs) (hl : ldData g n cs = some y) :
    ∃ (v : Value) (w' : World) (K' : Kt), ((execOp a.eval o).run P w = .ok (.value v) w' ∨ ((execOp a.eval o).run P w = .ok .skip w' ∧ v = undef)) ∧ Rel E (σ.put o.dst (.d y)) (a.put o.dst v) w' K' := by
  cases g with
  | true =>
    simp only [ldData, cond_true] at hl
    cases hb : Nat.ble n cs.length with
    | false => rw [hb] at hl; cases hl
    | true =>
      rw [hb] at hl
      simp only [cond_true, Option.some.injEq] at hl
      subst hl
      have hle := Nat.le_of_ble_eq_true hb
      have hrun := run_loadVar (w := w) (b := b) (o := off) (vs := vs.take n) hn hg (fun _ => by simp [hp.1]; omega) (fun h => by cases h) (fun j u hu => by
        rw [List.getElem?_take] at hu
        split at hu
        · exact hc j u hu
        · cases hu)
      refine ⟨_, w, K, .inl ?_, hR.put_pure hd (.d (Rd.agg (vs := vs.take n) (by simp [hp.1]) ?_ (hp.take n).2)) rfl⟩
      · simp [execOp, ho, hx, Instr.loadAt, Instr.sureAddr, hrun]
      · intro j u hu
        rw [List.getElem?_take] at hu
        split at hu
        · exact h1 j u hu
        · cases hu
  | false =>
    simp only [ldData, cond_false] at hl
    cases cs with
    | nil => cases hl
    | cons c r =>
      simp only [List.head?_cons, Option.some.injEq] at hl
      subst hl
      cases vs with
      | nil => have := hp.1; simp at this
      | cons u us =>
        have hrun := run_loadVar (w := w) (b := b) (o := off) (vs := [u]) hn hg (fun h => by cases h) (fun _ => rfl) (fun j z hz => by
          cases j with
          | zero => exact hc 0 z (by simpa using hz)
          | succ j => simp at hz)
        refine ⟨u, w, K, .inl ?_, hR.put_pure hd (.d (hp.2 0 c u rfl rfl)) rfl⟩
        simp [execOp, ho, hx, Instr.loadAt, Instr.sureAddr, hrun]

theorem ld_arr {P : Program} {E : Env} {σ σ' : St} {a : Act} {w : World} {K : Kt} {o : Oper} {ty : TypeId} {x : Operand} {n : Nat} {g : Bool} {l t i j b off k cap sz cap' sz' : Nat} {xs : List DVal} {e : DVal} {ad : Option Addr} {f : Nat → Value} (hR : Rel E σ a w K) (ho : o.op = .load ty x) (hd : okDst σ.n o.dst = true)
    (hn : szOf P ty = some n) (hg : aggOf P ty = some g) (hx : a.eval x = .pointer (some ⟨b, off + i * sz + j, none⟩)) (hk : K l t k = some (some ⟨b, off, none⟩, cap, sz)) (hkx : k = xs.length) (hK : K l t xs.length = some (ad, cap', sz'))
    (hs : ∀ x ∈ xs, x.cells.length = sz') (he : xs[i]? = some e)
    (hat : ∀ ad', ad = some ad' → ∀ (j : Nat) (c : DVal), (xs.flatMap DVal.cells)[j]? = some c → w.cell? ⟨ad'.block, ad'.off + j, none⟩ = some (f j) ∧ (f j).oneCell' = true ∧ Rd (badOf E.S0 K σ.H) w c (f j))
    (h : ((ldData g n (e.cells.drop j)).map fun y => σ.put o.dst (.d y)) = some σ') :
    ∃ (v : Value) (w' : World) (K' : Kt), ((execOp a.eval o).run P w = .ok (.value v) w' ∨ ((execOp a.eval o).run P w = .ok .skip w' ∧ v = undef)) ∧ Rel E σ' (a.put o.dst v) w' K' := by
  subst hkx
  rw [hk] at hK
  simp only [Option.some.injEq, Prod.mk.injEq] at hK
  obtain ⟨rfl, rfl, rfl⟩ := hK
  have hat' := hat _ rfl
  obtain ⟨y, hy, rfl⟩ := Option.map_eq_some_iff.1 h
  have hel : e.cells.length = sz := hs e (List.mem_of_getElem? he)
  have hget : ∀ j' c, (e.cells.drop j)[j']? = some c → (xs.flatMap DVal.cells)[i * sz + (j + j')]? = some c := fun j' c hc => by
    rw [List.getElem?_drop] at hc
    have hlt : j + j' < sz := by have := (List.getElem?_eq_some_iff.1 hc).1; omega
    rw [flat_get hs he (j + j') hlt]
    exact hc
  refine ld_run (vs := (List.range (e.cells.drop j).length).map fun j' => f (i * sz + (j + j'))) hR ho hd hn hg hx (fun j' u hu => ?_) (fun j' u hu => ?_) ⟨by simp, fun j' c u hc hu => ?_⟩ hy
  · rw [List.getElem?_map] at hu
    obtain ⟨q, hq, rfl⟩ := Option.map_eq_some_iff.1 hu
    have hq1 : j' < (e.cells.drop j).length := by
      rcases Nat.lt_or_ge j' (e.cells.drop j).length with h | h
      · exact h
      · rw [List.getElem?_eq_none (by simpa using h)] at hq; cases hq
    rw [List.getElem?_range hq1] at hq
    simp only [Option.some.injEq] at hq
    subst hq
    have := (hat' _ _ (hget j' _ (List.getElem?_eq_getElem hq1))).1
    rw [← this]
    congr 2
    simp only
    omega
  · rw [List.getElem?_map] at hu
    obtain ⟨q, hq, rfl⟩ := Option.map_eq_some_iff.1 hu
    have hlt : j' < (e.cells.drop j).length := by
      rcases Nat.lt_or_ge j' (e.cells.drop j).length with h | h
      · exact h
      · rw [List.getElem?_eq_none (by simpa using h)] at hq; cases hq
    rw [List.getElem?_range hlt] at hq
    simp only [Option.some.injEq] at hq
    subst hq
    exact (hat' _ _ (hget j' _ (List.getElem?_eq_getElem hlt))).2.1
  · rw [List.getElem?_map] at hu
    obtain ⟨q, hq, rfl⟩ := Option.map_eq_some_iff.1 hu
    have hlt : j' < (e.cells.drop j).length := (List.getElem?_eq_some_iff.1 hc).1
    rw [List.getElem?_range hlt] at hq
    simp only [Option.some.injEq] at hq
    subst hq
    exact (hat' _ _ (hget j' c hc)).2.2

theorem load_ok {P : Program} {σ σ' : St} {o : Oper} {ty : TypeId} {x : Operand} (ho : o.op = .load ty x) (hd : okDst σ.n o.dst = true) (h : stLoad P σ o.dst ty (evO σ x) = some σ') : OpOk P o σ σ' := by
  intro E a w K hR
  unfold stLoad at h
  obtain ⟨n, hn, h⟩ := Option.bind_eq_some_iff.1 h
  obtain ⟨g, hg, h⟩ := Option.bind_eq_some_iff.1 h
  have hx := hR.ev x
  generalize hv : a.eval x = v at hx
  generalize hq : evO σ x = q at hx h
  cases hx with
  | ptr hk =>
    rename_i l t off b cap sz
    simp only at h
    have hob := hR.hr.ob l t
    cases hO : σ.H l t with
    | box cs =>
      rw [hO] at h hob
      simp only at h
      obtain ⟨⟨y, σ1⟩, h1, rfl⟩ := Option.map_eq_some_iff.1 h
      obtain ⟨_, b', vs, ty', z, hK, hheap, hl, hone, hrel⟩ := hob
      rw [hk] at hK
      simp only [Option.some.injEq, Prod.mk.injEq, Addr.mk.injEq] at hK
      obtain ⟨⟨rfl, _⟩, _⟩ := hK
      have hp : P2 (Rv (badOf E.S0 K σ.H) K w) (cs.drop off) (vs.drop off) := P2.drop ⟨hl, hrel⟩ off
      have hcell : ∀ (j : Nat) (u : Value), (vs.drop off)[j]? = some u → w.cell? ⟨b, off + j, none⟩ = some u := fun j u hu => by
        rw [List.getElem?_drop] at hu
        simp [World.cell?, hheap, hu]
      have hone' : ∀ (j : Nat) (u : Value), (vs.drop off)[j]? = some u → u.oneCell' = true := fun j u hu => by
        rw [List.getElem?_drop] at hu
        exact hone _ u hu
      cases g with
      | true =>
        simp only [ldCells, cond_true] at h1
        cases hb : Nat.ble n (cs.drop off).length with
        | false => rw [hb] at h1; cases h1
        | true =>
          rw [hb] at h1
          simp only [cond_true] at h1
          obtain ⟨⟨ds, σ2⟩, h2, he⟩ := Option.map_eq_some_iff.1 h1
          simp only [Prod.mk.injEq] at he
          obtain ⟨rfl, rfl⟩ := he
          obtain ⟨hfz, hlen, hrd⟩ := frzL_ok hR h2
          have hle := Nat.le_of_ble_eq_true hb
          have hp2 := hp.take n
          have hdl : ds.length = n := by rw [hlen]; simp only [List.length_take]; omega
          have hrun := run_loadVar (w := w) (b := b) (o := off) (vs := (vs.drop off).take n) hn hg (fun _ => by rw [hp2.1]; simp only [List.length_take]; omega) (fun h => by cases h) (fun j u hu => by
            rw [List.getElem?_take] at hu
            split at hu
            · exact hcell j u hu
            · cases hu)
          refine ⟨_, w, K, .inl (by simp [execOp, ho, hv, Instr.loadAt, Instr.sureAddr, hrun]), (hfz.rel a hR).put_pure (by rw [hfz.n]; exact hd) (.d (Rd.agg (vs := (vs.drop off).take n) (by rw [hp2.1, hlen]) ?_ ?_)) rfl⟩
          · intro j u hu
            rw [List.getElem?_take] at hu
            split at hu
            · exact hone' j u hu
            · cases hu
          · intro j c u hc hu
            have hj : j < ((cs.drop off).take n).length := by rw [← hlen]; exact (List.getElem?_eq_some_iff.1 hc).1
            exact hrd j _ c u (List.getElem?_eq_getElem hj) hc (hp2.2 j _ u (List.getElem?_eq_getElem hj) hu)
      | false =>
        simp only [ldCells, cond_false] at h1
        cases hcs : cs.drop off with
        | nil => rw [hcs] at h1; cases h1
        | cons c r =>
          rw [hcs] at h1 hp
          simp only [List.head?_cons, Option.map_some, Option.some.injEq, Prod.mk.injEq] at h1
          obtain ⟨rfl, rfl⟩ := h1
          cases hvs : vs.drop off with
          | nil => rw [hvs] at hp; have := hp.1; simp at this
          | cons u us =>
            rw [hvs] at hp hcell
            have hrun := run_loadVar (w := w) (b := b) (o := off) (vs := [u]) hn hg (fun h => by cases h) (fun _ => rfl) (fun j z hz => by
              cases j with
              | zero => exact hcell 0 z (by simpa using hz)
              | succ j => simp at hz)
            refine ⟨u, w, K, .inl (by simp [execOp, ho, hv, Instr.loadAt, Instr.sureAddr, hrun]), hR.put_pure hd (hp.2 0 c u rfl rfl) ?_⟩
            have hbb := hR.hr.hb l t
            rw [hO] at hbb
            have hmem : c ∈ cs := List.mem_of_mem_drop (i := off) (by rw [hcs]; simp)
            have hbl : l ≤ σ.lev := by
              rcases Nat.lt_or_ge σ.lev l with h | h
              · have := hR.hr.top l t h; rw [hO] at this; cases this
              · exact h
            exact AVal.bel_mono (by omega) _ ((AVal.belL_iff _ _).1 hbb c hmem)
    | _ => rw [hO] at h; cases h
  | cptr hw h1 hr =>
    rename_i cs b off f
    simp only at h
    obtain ⟨y, hy, rfl⟩ := Option.map_eq_some_iff.1 h
    refine ld_run (vs := (List.range cs.length).map f) hR ho hd hn hg hv (fun j u hu => ?_) (fun j u hu => ?_) ⟨by simp, fun j c u hc hu => ?_⟩ hy
    all_goals
      rw [List.getElem?_map] at hu
      obtain ⟨q, hq, rfl⟩ := Option.map_eq_some_iff.1 hu
      have hlt : j < cs.length := by
        rcases Nat.lt_or_ge j cs.length with h | h
        · exact h
        · rw [List.getElem?_eq_none (by simpa using h)] at hq; cases hq
      rw [List.getElem?_range hlt] at hq
      simp only [Option.some.injEq] at hq
      subst hq
    · exact (hw j hlt).2
    · exact h1 j hlt
    · exact hr j c hc
  | elt hk =>
    rename_i l t k i j cap sz b off
    simp only at h
    have hob := hR.hr.ob l t
    cases hO : σ.H l t with
    | arr sz' xs =>
      rw [hO] at h hob
      simp only at h
      cases hc : Nat.beq k xs.length with
      | false => rw [hc] at h; cases h
      | true =>
        rw [hc] at h
        simp only [cond_true] at h
        obtain ⟨e, he, h⟩ := Option.bind_eq_some_iff.1 h
        obtain ⟨_, ad, cap', hK, hs, _, hat⟩ := hob
        refine ld_arr (f := fun j => match ad with | some ad' => (w.cell? ⟨ad'.block, ad'.off + j, none⟩).getD default | none => default) hR ho hd hn hg hv hk (beq_eq hc) hK hs he (fun ad' e' j c hjc => ?_) h
        subst e'
        obtain ⟨_, vs, ty', fz, h2, _, _, h5⟩ := hat
        obtain ⟨u, hu, hu1, hu2⟩ := h5 j c hjc
        have hcell : w.cell? ⟨ad'.block, ad'.off + j, none⟩ = some u := by simp [World.cell?, h2, hu]
        simp only [hcell, Option.getD_some]
        exact ⟨trivial, hu1, hu2⟩
    | frz xs =>
      rw [hO] at h hob
      simp only at h
      cases hc : Nat.beq k xs.length with
      | false => rw [hc] at h; cases h
      | true =>
        rw [hc] at h
        simp only [cond_true] at h
        obtain ⟨e, he, h⟩ := Option.bind_eq_some_iff.1 h
        obtain ⟨ad, cap', sz', hK, hss, hrd⟩ := hob
        generalize hG : Value.slice ad xs.length cap' = G at hrd
        cases hrd with
        | list hs hc' hw h1 hr ha =>
          rename_i ad2 cap2 sz2 b2 o2 f
          simp only [Value.slice.injEq] at hG
          obtain ⟨rfl, _, rfl⟩ := hG
          have hne : xs ≠ [] := fun e => by rw [e] at he; simp at he
          refine ld_arr (f := f) hR ho hd hn hg hv hk (beq_eq hc) hK hss he (fun ad' e' j c hjc => ?_) h
          have ha' := ha hne
          rw [e'] at ha'
          simp only [Option.some.injEq] at ha'
          subst ha'
          have hlt := (List.getElem?_eq_some_iff.1 hjc).1
          exact ⟨(hw j hlt).2, h1 j hlt, hr j c hjc⟩
    | _ => rw [hO] at h; cases h
  | _ => cases h
end Go.Fw
/- Writing variables; fields' addresses; elements' addresses. -/
set_option autoImplicit false
namespace Go.Fw
theorem flat_set {sz : Nat} : ∀ {xs : List DVal} (_ : ∀ x ∈ xs, x.cells.length = sz) {i : Nat} {e e' : DVal} (_ : xs[i]? = some e) (j : Nat) (ys : List DVal), j + ys.length ≤ sz →
    e'.cells = e.cells.take j ++ ys ++ e.cells.drop (j + ys.length) →
    (xs.set i e').flatMap DVal.cells = (xs.flatMap DVal.cells).take (i * sz + j) ++ ys ++ (xs.flatMap DVal.cells).drop (i * sz + j + ys.length)
  | [], _, i, e, e', hi, _, _, _, _ => by simp at hi
  | x :: r, hs, i, e, e', hi, j, ys, hj, he => by
    have hx := hs x (by simp)
    cases i with
    | zero =>
      simp only [List.getElem?_cons_zero, Option.some.injEq] at hi
      subst hi
      simp only [List.set_cons_zero, List.flatMap_cons, Nat.zero_mul, Nat.zero_add, he]
      rw [List.take_append_of_le_length (by omega), List.drop_append_of_le_length (by omega)]
      simp
    | succ i =>
      simp only [List.getElem?_cons_succ] at hi
      have ih := flat_set (e' := e') (fun y hy => hs y (List.mem_cons_of_mem _ hy)) hi j ys hj he
      simp only [List.set_cons_succ, List.flatMap_cons, ih]
      have h1 : (i + 1) * sz + j = x.cells.length + (i * sz + j) := by rw [hx, Nat.succ_mul]; omega
      rw [h1, List.take_length_add_append]
      have h2 : x.cells.length + (i * sz + j) + ys.length = x.cells.length + (i * sz + j + ys.length) := by omega
      rw [h2, List.drop_length_add_append]
      simp

def newElem (e y : DVal) (j : Nat) : DVal := bif Nat.beq y.cells.length e.cells.length then y else .agg (e.cells.take j ++ y.cells ++ e.cells.drop (j + y.cells.length))
theorem newElem_cells {e y : DVal} {j : Nat} (h : j + y.cells.length ≤ e.cells.length) : (newElem e y j).cells = e.cells.take j ++ y.cells ++ e.cells.drop (j + y.cells.length) := by
  unfold newElem
  cases hb : Nat.beq y.cells.length e.cells.length with
  | false => rfl
  | true =>
    have hl := beq_eq hb
    have hj : j = 0 := by omega
    subst hj
    simp [hl]
def stStore (P : Program) (σ : St) (dst : Option Tmp) (ty : TypeId) (x y : AVal) : Option St :=
  match x with
  | .ptr l t off =>
    match σ.H l t with
    | .box cs => (avCells y).bind fun ys => bif (szOf P ty).any (Nat.beq ys.length) && Nat.ble l σ.lev && AVal.belL (l + 1) ys && Nat.ble (off + ys.length) cs.length then
        some (St.put { σ with H := σ.H.set l t (.box (cs.take off ++ ys ++ cs.drop (off + ys.length))) } dst .any) else none
    | _ => none
  | .elt l t k i j =>
    (frzV σ y).bind fun p =>
    match p.2.H l t with
    | .arr sz xs => (xs[i]?).bind fun e => bif (szOf P ty).any (Nat.beq p.1.cells.length) && Nat.beq k xs.length && Nat.ble l σ.lev && Nat.ble (j + p.1.cells.length) sz then
        some (St.put { p.2 with H := p.2.H.set l t (.arr sz (xs.set i (newElem e p.1 j))) } dst .any) else none
    | _ => none
  | _ => none
theorem run_storeVar {P : Program} {w w' : World} {ty : TypeId} {ad : Addr} {v : Value} (hn : szOf P ty = some v.cells.size) (h : (storeCells ad v.cells.toList).run P w = .ok () w') : (storeVar ty ad v).run P w = .ok () w' := by
  simp [storeVar, run_sizeOf hn, h]
theorem cells_of_rd {bad : Nat → Prop} {w : World} {y : DVal} {v : Value} (h : Rd bad w y v) : P2 (Rd bad w) y.cells v.cells.toList ∧ (∀ (j : Nat) (z : Value), v.cells.toList[j]? = some z → z.oneCell' = true) := by
  have one : ∀ {y : DVal} {u : Value}, y.cells = [y] → u.cells = #[u] → u.oneCell' = true → Rd bad w y u → P2 (Rd bad w) y.cells u.cells.toList ∧ (∀ (j : Nat) (z : Value), u.cells.toList[j]? = some z → z.oneCell' = true) := by
    intro y u h0 h1 h2 h3
    rw [h0, h1]
    refine ⟨⟨rfl, fun j a b ha hb => ?_⟩, fun j z hz => ?_⟩
    · cases j with
      | zero => simp at ha hb; subst ha hb; exact h3
      | succ j => simp at ha
    · cases j with
      | zero => simp at hz; subst hz; exact h2
      | succ j => simp at hz
  cases h with
  | v hv => exact one rfl (by cases v <;> first | rfl | simp [Value.oneCell'] at hv) hv (.v hv)
  | agg hl h1 h2 => exact ⟨⟨hl, h2⟩, h1⟩
  | list hs hc hw h1 h2 ha => exact one rfl rfl rfl (.list hs hc hw h1 h2 ha)
theorem run_store_op {P : Program} {a : Act} {w w' : World} {o : Oper} {ty : TypeId} {x y : Operand} {ad : Addr} (ho : o.op = .store ty x y) (hx : a.eval x = .pointer (some ad)) (h : (storeVar ty ad (a.eval y)).run P w = .ok () w') :
    (execOp a.eval o).run P w = .ok .skip w' := by
  simp [execOp, ho, hx, Instr.storeAt, Instr.sureAddr, h]
theorem store_ok {P : Program} {σ σ' : St} {o : Oper} {ty : TypeId} {x y : Operand} (ho : o.op = .store ty x y) (hd : okDst σ.n o.dst = true) (h : stStore P σ o.dst ty (evO σ x) (evO σ y) = some σ') : OpOk P o σ σ' := by
  intro E a w K hR
  unfold stStore at h
  have hx := hR.ev x
  have hy := hR.ev y
  generalize hv : a.eval x = v at hx
  generalize hu : a.eval y = u at hy
  generalize evO σ y = yy at hy h
  generalize evO σ x = q at hx h
  cases hx with
  | ptr hk =>
    rename_i l t off b cap sz
    simp only at h
    have hob := hR.hr.ob l t
    cases hO : σ.H l t with
    | box cs =>
      rw [hO] at h hob
      simp only at h
      obtain ⟨ys, hys, h⟩ := Option.bind_eq_some_iff.1 h
      cases hc : ((szOf P ty).any (Nat.beq ys.length) && Nat.ble l σ.lev && AVal.belL (l + 1) ys && Nat.ble (off + ys.length) cs.length) with
      | false => rw [hc] at h; cases h
      | true =>
        rw [hc] at h
        simp only [cond_true, Option.some.injEq] at h
        subst h
        simp only [Bool.and_eq_true] at hc
        obtain ⟨⟨⟨c1, c2⟩, c3⟩, c4⟩ := hc
        have hlev := Nat.le_of_ble_eq_true c2
        have hle := Nat.le_of_ble_eq_true c4
        obtain ⟨hP, hone⟩ := avCells_ok hys hy
        obtain ⟨hn0, b', vs, ty', z, hK, hheap, hl, hone0, hrel⟩ := hob
        rw [hk] at hK
        simp only [Option.some.injEq, Prod.mk.injEq, Addr.mk.injEq] at hK
        obtain ⟨⟨rfl, _⟩, hz⟩ := hK
        have hsz : szOf P ty = some u.cells.size := by
          cases hS : szOf P ty with
          | none => rw [hS] at c1; simp at c1
          | some m =>
            rw [hS] at c1
            simp only [Option.any_some] at c1
            have := beq_eq c1
            have h2 := hP.1
            simp only [Array.length_toList] at h2
            rw [← this, h2]
        have hlu : u.cells.toList.length = ys.length := hP.1
        obtain ⟨w', hw1, hw2, hw3⟩ := storeCells_ok P b ty' (0, 0) u.cells.toList off 0 vs w hheap (by simp) (by rw [hlu]; omega) (fun z hz => by obtain ⟨j, hj⟩ := List.mem_iff_getElem?.1 hz; exact hone j z hj)
        have hown : (σ.H l t).own K l t b := by rw [hO]; exact ⟨_, hk⟩
        have hch : Ch (fun b' => (σ.H l t).own K l t b') w w' := hw3.mono (fun b' e => e ▸ hown)
        have howneq : ∀ b', (AObj.box (cs.take off ++ ys ++ cs.drop (off + ys.length))).own K l t b' → (σ.H l t).own K l t b' ∨ w.heap.size ≤ b' := fun b' hb' => .inl (by rw [hO]; exact hb')
        have hkp := Keeps.write hR.hr hch (fun _ _ _ => rfl) howneq
        have hob' : Robj (badOf E.S0 K (σ.H.set l t (.box (cs.take off ++ ys ++ cs.drop (off + ys.length))))) K w' l t (.box (cs.take off ++ ys ++ cs.drop (off + ys.length))) := by
          refine ⟨hn0, b, _, ty', _, hk, hw2, ?_, ?_, ?_⟩
          · simp only [Nat.add_zero, List.length_append, List.length_take, List.length_drop, hlu]; omega
          · intro j z hz
            simp only [Nat.add_zero] at hz
            have hmem := List.mem_of_getElem? hz
            simp only [List.mem_append] at hmem
            rcases hmem with (hm | hm) | hm
            · obtain ⟨j', hj'⟩ := List.mem_iff_getElem?.1 (List.mem_of_mem_take hm)
              exact hone0 _ _ hj'
            · obtain ⟨j', hj'⟩ := List.mem_iff_getElem?.1 hm
              exact hone _ _ hj'
            · obtain ⟨j', hj'⟩ := List.mem_iff_getElem?.1 (List.mem_of_mem_drop hm)
              exact hone0 _ _ hj'
          · have p1 : P2 (Rv (badOf E.S0 K σ.H) K w) cs vs := ⟨hl, hrel⟩
            have := ((p1.take off).append hP).append (p1.drop (off + ys.length))
            have h2 := this.mono (fun c x hcx => hcx.mono hkp (fun _ _ _ _ hz => hz))
            simp only [Nat.add_zero, hlu]
            exact h2.2
        have hbel' : (AObj.box (cs.take off ++ ys ++ cs.drop (off + ys.length))).bel (l + 1) = true := by
          have h0 := hR.hr.hb l t
          rw [hO] at h0
          simp only [AObj.bel] at h0 ⊢
          rw [AVal.belL_iff] at h0 ⊢
          intro z hz
          simp only [List.mem_append] at hz
          rcases hz with (hz | hz) | hz
          · exact h0 z (List.mem_of_mem_take hz)
          · exact (AVal.belL_iff _ _).1 c3 z hz
          · exact h0 z (List.mem_of_mem_drop hz)
        have hr' := hR.hr.write hch (fun _ _ _ _ hz => hz) (fun _ _ _ => rfl) howneq hob' hbel' hlev
        exact ⟨undef, w', K, .inr ⟨run_store_op ho hv (by rw [hu]; exact run_storeVar hsz hw1), rfl⟩, hR.put hd hr' hkp (fun _ _ _ _ hz => hz) .any rfl⟩
    | _ => rw [hO] at h; cases h
  | elt hk =>
    rename_i l t k i j cap sz b off
    simp only at h
    obtain ⟨⟨yd, σ1⟩, hfz, h⟩ := Option.bind_eq_some_iff.1 h
    obtain ⟨F, G⟩ := frzV_ok hR hfz
    have hR1 := F.rel a hR
    have hrd := G u hy
    simp only at h
    have hob := hR1.hr.ob l t
    cases hO : σ1.H l t with
    | arr sz' xs =>
      rw [hO] at h hob
      simp only at h
      obtain ⟨e, he, h⟩ := Option.bind_eq_some_iff.1 h
      cases hc : ((szOf P ty).any (Nat.beq yd.cells.length) && Nat.beq k xs.length && Nat.ble l σ.lev && Nat.ble (j + yd.cells.length) sz') with
      | false => rw [hc] at h; cases h
      | true =>
        rw [hc] at h
        simp only [cond_true, Option.some.injEq] at h
        subst h
        simp only [Bool.and_eq_true] at hc
        obtain ⟨⟨⟨c1, c2⟩, c3⟩, c4⟩ := hc
        have hlev := Nat.le_of_ble_eq_true c3
        have hle := Nat.le_of_ble_eq_true c4
        have hkx := beq_eq c2
        subst hkx
        obtain ⟨hn0, ad, cap', hK, hs, hcap, hat⟩ := hob
        rw [hk] at hK
        simp only [Option.some.injEq, Prod.mk.injEq] at hK
        obtain ⟨rfl, rfl, rfl⟩ := hK
        obtain ⟨_, vs, ty', fz, h2, h3, h4, h5⟩ := hat
        simp only at h2 h4 h5
        obtain ⟨hP, hone⟩ := cells_of_rd hrd
        have hel : e.cells.length = sz := hs e (List.mem_of_getElem? he)
        have hsz : szOf P ty = some u.cells.size := by
          cases hS : szOf P ty with
          | none => rw [hS] at c1; simp at c1
          | some m =>
            rw [hS] at c1
            simp only [Option.any_some] at c1
            have := beq_eq c1
            have h2 := hP.1
            simp only [Array.length_toList] at h2
            rw [← this, h2]
        have hlu : u.cells.toList.length = yd.cells.length := hP.1
        have hfl := flat_len hs
        have hilt : i < xs.length := (List.getElem?_eq_some_iff.1 he).1
        have hmul : i * sz + sz ≤ xs.length * sz := by
          have := Nat.mul_le_mul_right sz hilt
          rw [Nat.succ_mul] at this
          exact this
        have hmul2 : xs.length * sz ≤ cap * sz := Nat.mul_le_mul_right sz hcap
        obtain ⟨w', hw1, hw2, hw3⟩ := storeCells_ok P b ty' fz u.cells.toList (off + i * sz + j) 0 vs w h2 h3 (by rw [hlu]; omega) (fun z hz => by obtain ⟨j, hj⟩ := List.mem_iff_getElem?.1 hz; exact hone j z hj)
        have hown : (σ1.H l t).own K l t b := by rw [hO]; exact ⟨off, _, hk⟩
        have hch : Ch (fun b' => (σ1.H l t).own K l t b') w w' := hw3.mono (fun b' e => e ▸ hown)
        have howneq : ∀ b', (AObj.arr sz (xs.set i (newElem e yd j))).own K l t b' → (σ1.H l t).own K l t b' ∨ w.heap.size ≤ b' := fun b' hb' => .inl (by
          rw [hO]
          simp only [AObj.own, List.length_set] at hb' ⊢
          exact hb')
        have hkp := Keeps.write hR1.hr hch (fun _ _ _ => rfl) howneq
        have hne := newElem_cells (e := e) (y := yd) (j := j) (by omega)
        have hfs := flat_set hs he j yd.cells hle hne
        have hob' : Robj (badOf E.S0 K (σ1.H.set l t (.arr sz (xs.set i (newElem e yd j))))) K w' l t (.arr sz (xs.set i (newElem e yd j))) := by
          refine ⟨by simpa using hn0, some ⟨b, off, none⟩, cap, by simpa using hk, ?_, by simpa using hcap, rfl, _, ty', fz, hw2, ?_, ?_, ?_⟩
          · intro x hx
            rcases List.mem_or_eq_of_mem_set hx with hx | hx
            · exact hs x hx
            · subst hx
              rw [hne]
              simp only [List.length_append, List.length_take, List.length_drop]; omega
          · intro j' hj'
            refine h3 j' ?_
            simp only [List.length_append, List.length_take, List.length_drop, hlu] at hj'
            omega
          · simp only [List.length_append, List.length_take, List.length_drop, hlu]; omega
          · intro j' c hc
            rw [hfs] at hc
            simp only [Nat.add_zero, hlu]
            -- the three parts
            have hlen1 : ((xs.flatMap DVal.cells).take (i * sz + j)).length = i * sz + j := by rw [List.length_take, hfl]; omega
            have hlen2 : (vs.take (off + i * sz + j)).length = off + i * sz + j := by rw [List.length_take]; omega
            have ht : ∀ c u, (vs[off + j']? = some u ∧ u.oneCell' = true ∧ Rd (badOf E.S0 K σ1.H) w c u) → vs[off + j']? = some u ∧ u.oneCell' = true ∧ Rd (badOf E.S0 K (σ1.H.set l t (.arr sz (xs.set i (newElem e yd j))))) w' c u := fun c u ⟨a1, a2, a3⟩ => ⟨a1, a2, a3.mono hkp⟩
            rcases Nat.lt_or_ge j' (i * sz + j) with q1 | q1
            · rw [List.append_assoc, List.getElem?_append_left (by omega), List.getElem?_take_of_lt q1] at hc
              obtain ⟨u', hu'⟩ := h5 j' c hc
              obtain ⟨a1, a2, a3⟩ := ht c u' hu'
              refine ⟨u', ?_, a2, a3⟩
              rw [List.append_assoc, List.getElem?_append_left (by omega), List.getElem?_take_of_lt (by omega)]
              exact a1
            · rcases Nat.lt_or_ge j' (i * sz + j + yd.cells.length) with q2 | q2
              · rw [List.append_assoc, List.getElem?_append_right (by omega), List.getElem?_append_left (by omega), hlen1] at hc
                have hlt : j' - (i * sz + j) < u.cells.toList.length := by omega
                have hg := hP.2 _ c _ hc (List.getElem?_eq_getElem hlt)
                refine ⟨u.cells.toList[j' - (i * sz + j)], ?_, hone _ _ (List.getElem?_eq_getElem hlt), hg.mono hkp⟩
                rw [List.append_assoc, List.getElem?_append_right (by omega), List.getElem?_append_left (by omega), hlen2]
                rw [← List.getElem?_eq_getElem hlt]
                congr 1
                omega
              · rw [List.getElem?_append_right (by rw [List.length_append]; omega), List.length_append, hlen1, List.getElem?_drop] at hc
                have e1 : i * sz + j + yd.cells.length + (j' - (i * sz + j + yd.cells.length)) = j' := by omega
                rw [e1] at hc
                obtain ⟨u', hu'⟩ := h5 j' c hc
                obtain ⟨a1, a2, a3⟩ := ht c u' hu'
                refine ⟨u', ?_, a2, a3⟩
                rw [List.getElem?_append_right (by rw [List.length_append]; omega), List.length_append, hlen2, hlu, List.getElem?_drop]
                have e2 : off + i * sz + j + yd.cells.length + (off + j' - (off + i * sz + j + yd.cells.length)) = off + j' := by omega
                rw [e2]
                exact a1
        have hr' := hR1.hr.write hch (fun _ _ _ _ hz => hz) (fun _ _ _ => rfl) howneq hob' rfl (by rw [F.lev]; exact hlev)
        exact ⟨undef, w', K, .inr ⟨run_store_op ho hv (by rw [hu]; exact run_storeVar hsz hw1), rfl⟩, hR1.put (by rw [F.n]; exact hd) hr' hkp (fun _ _ _ _ hz => hz) .any rfl⟩
    | _ => rw [hO] at h; cases h
  | _ => cases h
end Go.Fw
/- Fields' addresses, fields, elements' addresses, lengths, parts of slices. -/
set_option autoImplicit false
namespace Go.Fw
def stFieldA (P : Program) (σ : St) (dst : Option Tmp) (s : TypeId) (f : Nat) (x : AVal) : Option St :=
  (fldOf P s f).bind fun p => (szOf P p.2).bind fun n => bif Nat.beq n 0 then none else
  match x with
  | .ptr l t off => some (σ.put dst (.ptr l t (off + p.1)))
  | .elt l t k i j => some (σ.put dst (.elt l t k i (j + p.1)))
  | .cptr cs => bif Nat.ble p.1 cs.length then some (σ.put dst (.cptr (cs.drop p.1))) else none
  | _ => none
theorem run_fieldAddr {P : Program} {a : Act} {w : World} {o : Oper} {s : TypeId} {x : Operand} {f off n b q : Nat} {ty : TypeId} (ho : o.op = .fieldAddr s x f) (hf : fldOf P s f = some (off, ty)) (hn : szOf P ty = some n) (h0 : Nat.beq n 0 = false)
    (hx : a.eval x = .pointer (some ⟨b, q, none⟩)) : (execOp a.eval o).run P w = .ok (.value (.pointer (some ⟨b, q + off, none⟩))) w := by
  unfold fldOf at hf
  cases hu : P.underlying s with
  | none => rw [hu] at hf; cases hf
  | some d =>
    rw [hu] at hf
    cases d with
    | struct fs =>
      simp only at hf
      obtain ⟨fl, hfl, he⟩ := Option.map_eq_some_iff.1 hf
      simp only [Prod.mk.injEq] at he
      obtain ⟨rfl, rfl⟩ := he
      have hn0 : n ≠ 0 := fun e => by rw [e] at h0; cases h0
      simp [execOp, ho, Instr.fieldAt, underlying, hu, hfl, hx, Instr.sureAddr, fieldPlace, run_sizeOf hn, hn0, Addr.addo]
    | _ => cases hf
theorem fieldA_ok {P : Program} {σ σ' : St} {o : Oper} {s : TypeId} {x : Operand} {f : Nat} (ho : o.op = .fieldAddr s x f) (hd : okDst σ.n o.dst = true) (h : stFieldA P σ o.dst s f (evO σ x) = some σ') : OpOk P o σ σ' := by
  intro E a w K hR
  unfold stFieldA at h
  obtain ⟨⟨off, ty⟩, hf, h⟩ := Option.bind_eq_some_iff.1 h
  obtain ⟨n, hn, h⟩ := Option.bind_eq_some_iff.1 h
  cases h0 : Nat.beq n 0 with
  | true => rw [h0] at h; cases h
  | false =>
    rw [h0] at h
    simp only [cond_false] at h
    have hx := hR.ev x
    have hb := hR.evb x
    generalize hv : a.eval x = v at hx
    generalize evO σ x = q at hx hb h
    cases hx with
    | ptr hk =>
      simp only [Option.some.injEq] at h
      subst h
      exact ⟨_, w, K, .inl (run_fieldAddr ho hf hn h0 hv), hR.put_pure hd (.ptr hk) hb⟩
    | elt hk =>
      rename_i l t k i j cap sz b o
      simp only [Option.some.injEq] at h
      subst h
      refine ⟨_, w, K, .inl (run_fieldAddr ho hf hn h0 hv), hR.put_pure hd ?_ hb⟩
      rw [show o + i * sz + j + off = o + i * sz + (j + off) by omega]
      exact .elt hk
    | cptr hw h1 hr =>
      rename_i cs b o f'
      simp only at h
      cases hc : Nat.ble off cs.length with
      | false => rw [hc] at h; cases h
      | true =>
        rw [hc] at h
        simp only [cond_true, Option.some.injEq] at h
        subst h
        have hle := Nat.le_of_ble_eq_true hc
        refine ⟨_, w, K, .inl (run_fieldAddr ho hf hn h0 hv), hR.put_pure hd (.cptr (f := fun j => f' (off + j)) (fun j hj => ?_) (fun j hj => ?_) (fun j c hj => ?_)) rfl⟩
        · rw [List.length_drop] at hj
          have := hw (off + j) (by omega)
          rwa [← Nat.add_assoc] at this
        · rw [List.length_drop] at hj
          exact h1 _ (by omega)
        · rw [List.getElem?_drop] at hj
          exact hr _ c hj
    | _ => cases h

def stField (P : Program) (σ : St) (dst : Option Tmp) (s : TypeId) (f : Nat) (x : AVal) : Option St :=
  (fldOf P s f).bind fun p => (szOf P p.2).bind fun n => (aggOf P p.2).bind fun g =>
  match x with
  | .d (.agg cs) => (ldData g n (cs.drop p.1)).map fun y => σ.put dst (.d y)
  | _ => none
theorem field_ok {P : Program} {σ σ' : St} {o : Oper} {s : TypeId} {x : Operand} {f : Nat} (ho : o.op = .field s x f) (hd : okDst σ.n o.dst = true) (h : stField P σ o.dst s f (evO σ x) = some σ') : OpOk P o σ σ' := by
  intro E a w K hR
  unfold stField at h
  obtain ⟨⟨off, ty⟩, hf, h⟩ := Option.bind_eq_some_iff.1 h
  obtain ⟨n, hn, h⟩ := Option.bind_eq_some_iff.1 h
  obtain ⟨g, hg, h⟩ := Option.bind_eq_some_iff.1 h
  have hx := hR.ev x
  generalize hv : a.eval x = v at hx
  generalize evO σ x = q at hx h
  cases hx with
  | d hr =>
    cases hr with
    | agg hl h1 h2 =>
      rename_i cs vs
      simp only at h
      obtain ⟨y, hy, rfl⟩ := Option.map_eq_some_iff.1 h
      unfold fldOf at hf
      cases hu : P.underlying s with
      | none => rw [hu] at hf; cases hf
      | some d =>
        rw [hu] at hf
        cases d with
        | struct fs =>
          simp only at hf
          obtain ⟨fl, hfl, he⟩ := Option.map_eq_some_iff.1 hf
          simp only [Prod.mk.injEq] at he
          obtain ⟨rfl, rfl⟩ := he
          cases g with
          | true =>
            simp only [ldData, cond_true] at hy
            cases hc : Nat.ble n (cs.drop fl.offset).length with
            | false => rw [hc] at hy; cases hy
            | true =>
              rw [hc] at hy
              simp only [cond_true, Option.some.injEq] at hy
              subst hy
              have hle := Nat.le_of_ble_eq_true hc
              rw [List.length_drop] at hle
              refine ⟨.agg ⟨(vs.drop fl.offset).take n⟩, w, K, .inl ?_, hR.put_pure hd (.d (Rd.agg ?_ (fun j z hz => ?_) (P2.take (P2.drop ⟨hl, h2⟩ _) _).2)) rfl⟩
              · simp [execOp, ho, Instr.field, underlying, hu, hfl, hv, asAgg, part, run_isAgg hg, run_sizeOf hn]
              · simp [hl]
              · rw [List.getElem?_take] at hz
                split at hz
                · rw [List.getElem?_drop] at hz; exact h1 _ z hz
                · cases hz
          | false =>
            simp only [ldData, cond_false] at hy
            rw [List.head?_drop] at hy
            have hlt : fl.offset < vs.length := by rw [hl]; exact (List.getElem?_eq_some_iff.1 hy).1
            refine ⟨vs[fl.offset], w, K, .inl ?_, hR.put_pure hd (.d (h2 _ y _ hy (List.getElem?_eq_getElem hlt))) rfl⟩
            simp [execOp, ho, Instr.field, underlying, hu, hfl, hv, asAgg, part, run_isAgg hg, hlt]
        | _ => cases hf
    | _ => cases h
  | _ => cases h

def intOfA : AVal → Option Int
  | .d (.v (.int _ z)) => some z
  | _ => none
theorem intOfA_eq {bad : Nat → Prop} {K : Kt} {w : World} {x : AVal} {z : Int} {v : Value} (h : intOfA x = some z) (hr : Rv bad K w x v) : ∃ k, v = .int k z := by
  cases hr with
  | d hd =>
    cases hd with
    | v _ =>
      unfold intOfA at h
      split at h
      · rename_i k z' e
        simp only [Option.some.injEq] at h
        simp only [AVal.d.injEq, DVal.v.injEq] at e
        exact ⟨k, by rw [e, h]⟩
      · cases h
    | _ => simp [intOfA] at h
  | _ => simp [intOfA] at h
def elemOf' (P : Program) (t : TypeId) : Option TypeId := match P.underlying t with | some (.slice e) => some e | _ => none
theorem elemOf_eq {P : Program} {t e : TypeId} (h : elemOf' P t = some e) : P.underlying t = some (.slice e) := by
  unfold elemOf' at h
  split at h
  · simp only [Option.some.injEq] at h; subst h; assumption
  · cases h
def stIndexA (P : Program) (σ : St) (dst : Option Tmp) (t : TypeId) (x ix : AVal) : Option St :=
  (elemOf' P t).bind fun e => (szOf P e).bind fun n => (intOfA ix).bind fun z => bif decide (0 ≤ z) then
  (match x with
  | .d (.list xs) => (xs[z.toNat]?).bind fun y => bif Nat.beq y.cells.length n then some (σ.put dst (.cptr y.cells)) else none
  | .ref l s k =>
    match σ.H l s with
    | .arr sz xs => bif Nat.beq k xs.length && Nat.beq sz n && Nat.blt z.toNat k then some (σ.put dst (.elt l s k z.toNat 0)) else none
    | .frz xs => (xs[z.toNat]?).bind fun y => bif Nat.beq k xs.length && Nat.beq y.cells.length n then some (σ.put dst (.cptr y.cells)) else none
    | _ => none
  | _ => none) else none
theorem run_indexAddr {P : Program} {a : Act} {w : World} {o : Oper} {t e : TypeId} {x ix : Operand} {n b q len cap : Nat} {z : Int} {k : IntKind} (ho : o.op = .indexAddr t x ix) (he : P.underlying t = some (.slice e)) (hn : szOf P e = some n)
    (hx : a.eval x = .slice (some ⟨b, q, none⟩) len cap) (hi : a.eval ix = .int k z) (h0 : 0 ≤ z) (hz : z.toNat < len) :
    (execOp a.eval o).run P w = .ok (.value (.pointer (some ⟨b, q + z.toNat * n, none⟩))) w := by
  have hz2 : z < len := by omega
  simp [execOp, ho, Instr.indexAt, hi, hx, asIntOf, underlying, he, run_sizeOf hn, h0, hz2, Addr.addo]
theorem cptr_of_list {bad : Nat → Prop} {K : Kt} {w : World} {xs : List DVal} {y : DVal} {sz b o i : Nat} {f : Nat → Value} (hs : ∀ x ∈ xs, x.cells.length = sz) (hw : ∀ j, j < (xs.flatMap DVal.cells).length → ¬ bad b ∧ w.cell? ⟨b, o + j, none⟩ = some (f j))
    (h1 : ∀ j, j < (xs.flatMap DVal.cells).length → (f j).oneCell' = true) (h : ∀ (j : Nat) (c : DVal), (xs.flatMap DVal.cells)[j]? = some c → Rd bad w c (f j)) (hy : xs[i]? = some y) :
    Rv bad K w (.cptr y.cells) (.pointer (some ⟨b, o + i * sz, none⟩)) := by
  have hel := hs y (List.mem_of_getElem? hy)
  have hg : ∀ j, j < y.cells.length → (xs.flatMap DVal.cells)[i * sz + j]? = some y.cells[j]! := fun j hj => by
    rw [flat_get hs hy j (by omega), List.getElem?_eq_getElem hj, List.getElem!_eq_getElem?_getD, List.getElem?_eq_getElem hj]; rfl
  refine .cptr (f := fun j => f (i * sz + j)) (fun j hj => ?_) (fun j hj => ?_) (fun j c hj => ?_)
  · have := hw (i * sz + j) (List.getElem?_eq_some_iff.1 (hg j hj)).1
    rwa [← Nat.add_assoc] at this
  · exact h1 _ (List.getElem?_eq_some_iff.1 (hg j hj)).1
  · refine h _ c ?_
    rw [flat_get hs hy j (by have := (List.getElem?_eq_some_iff.1 hj).1; omega)]
    exact hj
theorem indexA_ok {P : Program} {σ σ' : St} {o : Oper} {t : TypeId} {x ix : Operand} (ho : o.op = .indexAddr t x ix) (hd : okDst σ.n o.dst = true) (h : stIndexA P σ o.dst t (evO σ x) (evO σ ix) = some σ') : OpOk P o σ σ' := by
  intro E a w K hR
  unfold stIndexA at h
  obtain ⟨e, he, h⟩ := Option.bind_eq_some_iff.1 h
  obtain ⟨n, hn, h⟩ := Option.bind_eq_some_iff.1 h
  obtain ⟨z, hz, h⟩ := Option.bind_eq_some_iff.1 h
  obtain ⟨kk, hi⟩ := intOfA_eq hz (hR.ev ix)
  have hu := elemOf_eq he
  cases h0 : decide (0 ≤ z) with
  | false => rw [h0] at h; cases h
  | true =>
    rw [h0] at h
    simp only [cond_true] at h
    have h0 : 0 ≤ z := of_decide_eq_true h0
    have hx := hR.ev x
    have hb := hR.evb x
    generalize hv : a.eval x = v at hx
    generalize evO σ x = q at hx hb h
    cases hx with
    | d hr =>
      cases hr with
      | list hs hc hw h1 h2 ha =>
        rename_i xs ad cap sz b off f
        simp only at h
        obtain ⟨y, hy, h⟩ := Option.bind_eq_some_iff.1 h
        cases hc2 : Nat.beq y.cells.length n with
        | false => rw [hc2] at h; cases h
        | true =>
          rw [hc2] at h
          simp only [cond_true, Option.some.injEq] at h
          subst h
          have hne : xs ≠ [] := fun e => by rw [e] at hy; simp at hy
          have hsz := hs y (List.mem_of_getElem? hy)
          have := beq_eq hc2
          have hns : n = sz := by omega
          subst hns
          rw [ha hne] at hv
          refine ⟨_, w, K, .inl (run_indexAddr ho hu hn hv hi h0 (List.getElem?_eq_some_iff.1 hy).1), hR.put_pure hd (cptr_of_list hs hw h1 h2 hy) rfl⟩
      | _ => cases h
    | ref hk =>
      rename_i l s k cap sz ad
      simp only at h
      have hob := hR.hr.ob l s
      cases hO : σ.H l s with
      | arr sz' xs =>
        rw [hO] at h hob
        simp only at h
        cases hc : (Nat.beq k xs.length && Nat.beq sz' n && Nat.blt z.toNat k) with
        | false => rw [hc] at h; cases h
        | true =>
          rw [hc] at h
          simp only [cond_true, Option.some.injEq] at h
          subst h
          simp only [Bool.and_eq_true] at hc
          obtain ⟨⟨c1, c2⟩, c3⟩ := hc
          have hkx := beq_eq c1
          subst hkx
          have hzk : z.toNat < xs.length := by simpa [Nat.blt_eq] using c3
          obtain ⟨_, ad', cap', hK, hs, hcap, hat⟩ := hob
          rw [hk] at hK
          simp only [Option.some.injEq, Prod.mk.injEq] at hK
          obtain ⟨rfl, rfl, rfl⟩ := hK
          have hszn := beq_eq c2
          subst hszn
          cases ad with
          | none =>
            obtain ⟨rfl, _⟩ := hat
            simp at hzk
          | some ad =>
            obtain ⟨b, off, sp⟩ := ad
            obtain ⟨hsp, _⟩ := hat
            simp only at hsp
            subst hsp
            refine ⟨_, w, K, .inl (run_indexAddr ho hu hn hv hi h0 hzk), hR.put_pure hd ?_ hb⟩
            have := Rv.elt (bad := badOf E.S0 K σ.H) (w := w) (i := z.toNat) (j := 0) hk
            rwa [Nat.add_zero] at this
      | frz xs =>
        rw [hO] at h hob
        simp only at h
        obtain ⟨y, hy, h⟩ := Option.bind_eq_some_iff.1 h
        cases hc : (Nat.beq k xs.length && Nat.beq y.cells.length n) with
        | false => rw [hc] at h; cases h
        | true =>
          rw [hc] at h
          simp only [cond_true, Option.some.injEq] at h
          subst h
          simp only [Bool.and_eq_true] at hc
          obtain ⟨c1, c2⟩ := hc
          have hkx := beq_eq c1
          subst hkx
          obtain ⟨ad', cap', sz', hK, hss, hrd⟩ := hob
          rw [hk] at hK
          simp only [Option.some.injEq, Prod.mk.injEq] at hK
          obtain ⟨rfl, rfl, rfl⟩ := hK
          have hne : xs ≠ [] := fun e => by rw [e] at hy; simp at hy
          generalize hG : Value.slice ad xs.length cap = G at hrd
          cases hrd with
          | list hs hc' hw h1 hr ha =>
            rename_i ad2 cap2 sz2 b2 o2 f
            simp only [Value.slice.injEq] at hG
            obtain ⟨rfl, _, rfl⟩ := hG
            have e1 := hs y (List.mem_of_getElem? hy)
            have e2 := beq_eq c2
            have hns : n = sz2 := by omega
            subst hns
            rw [ha hne] at hv
            exact ⟨_, w, K, .inl (run_indexAddr ho hu hn hv hi h0 (List.getElem?_eq_some_iff.1 hy).1), hR.put_pure hd (cptr_of_list hs hw h1 hr hy) rfl⟩
      | _ => rw [hO] at h; cases h
    | _ => cases h

/-! ### Lengths -/
def lenA : AVal → Option Nat
  | .d (.list xs) => some xs.length
  | .ref _ _ n => some n
  | .nils => some 0
  | _ => none
theorem lenA_eq {bad : Nat → Prop} {K : Kt} {w : World} {x : AVal} {n : Nat} {v : Value} (h : lenA x = some n) (hr : Rv bad K w x v) : ∃ a cap, v = .slice a n cap := by
  cases hr with
  | nils => simp only [lenA, Option.some.injEq] at h; subst h; exact ⟨_, _, rfl⟩
  | ref => simp only [lenA, Option.some.injEq] at h; subst h; exact ⟨_, _, rfl⟩
  | d hd =>
    cases hd with
    | list => simp only [lenA, Option.some.injEq] at h; subst h; exact ⟨_, _, rfl⟩
    | _ => simp [lenA] at h
  | _ => simp [lenA] at h
def stLen (P : Program) (σ : St) (dst : Option Tmp) (t : TypeId) (x : AVal) : Option St :=
  (elemOf' P t).bind fun _ => (lenA x).map fun (n : Nat) => σ.put dst (.d (.v (.int .i64 n)))
theorem len_ok {P : Program} {σ σ' : St} {o : Oper} {t : TypeId} {x : Operand} (ho : o.op = .call { callee := .builtin .len, args := #[x], argTypes := #[t] }) (hd : okDst σ.n o.dst = true) (h : stLen P σ o.dst t (evO σ x) = some σ') : OpOk P o σ σ' := by
  intro E a w K hR
  unfold stLen at h
  obtain ⟨e, he, h⟩ := Option.bind_eq_some_iff.1 h
  obtain ⟨n, hn, rfl⟩ := Option.map_eq_some_iff.1 h
  obtain ⟨ad, cap, hv⟩ := lenA_eq hn (hR.ev x)
  refine ⟨.int .i64 n, w, K, .inl ?_, hR.put_pure hd (.d (.v rfl)) rfl⟩
  simp [execOp, ho, resolve, invoke, builtin, Builtin.len_, underlying, elemOf_eq he, hv, goInt]

/-- A builtin on scalars. -/
def toVs : List AVal → Option (List Value)
  | [] => some []
  | x :: r => (toV x).bind fun u => (toVs r).map fun us => u :: us
theorem toVs_eq {bad : Nat → Prop} {K : Kt} {w : World} : ∀ {xs : List AVal} {us vs : List Value}, toVs xs = some us → P2 (Rv bad K w) xs vs → vs = us
  | [], us, vs, h, hp => by
    simp only [toVs, Option.some.injEq] at h
    subst h
    exact List.length_eq_zero_iff.1 (by simpa using hp.1)
  | x :: r, us, vs, h, hp => by
    simp only [toVs] at h
    obtain ⟨u, hu, h⟩ := Option.bind_eq_some_iff.1 h
    obtain ⟨us', hus, rfl⟩ := Option.map_eq_some_iff.1 h
    cases vs with
    | nil => have := hp.1; simp at this
    | cons y ys =>
      have h0 := toV_eq hu (hp.2 0 x y rfl rfl)
      subst h0
      exact congrArg _ (toVs_eq hus ⟨by simpa using hp.1, fun j a b ha hb => hp.2 (j + 1) a b (by simpa using ha) (by simpa using hb)⟩)
theorem P2.evs {E : Env} {σ : St} {a : Act} {w : World} {K : Kt} (hR : Rel E σ a w K) (xs : List Operand) : P2 (Rv (badOf E.S0 K σ.H) K w) (xs.map (evO σ)) (xs.map a.eval) := by
  refine ⟨by simp, fun j x y hx hy => ?_⟩
  rw [List.getElem?_map] at hx hy
  obtain ⟨z, hz, rfl⟩ := Option.map_eq_some_iff.1 hx
  rw [hz] at hy
  simp only [Option.map_some, Option.some.injEq] at hy
  subst hy
  exact hR.ev z
def valOf : Next → Option Value
  | .value v => some v
  | _ => none
def isC : Operand → Bool
  | .const _ => true
  | _ => false
noncomputable def builtinV (P : Program) (b : Builtin) (ts : Array TypeId) (ty : TypeId) (cs : Array Bool) (us : List Value) : Option Value := (pr P (builtin b ts ty cs ⟨us⟩)).bind valOf
noncomputable def stBuiltin (P : Program) (σ : St) (dst : Option Tmp) (b : Builtin) (ts : Array TypeId) (ty : TypeId) (xs : Array Operand) : Option St :=
  (toVs (xs.toList.map (evO σ))).bind fun us => (builtinV P b ts ty (xs.map isC) us).map fun r => σ.put dst (ofConst r)
theorem builtin_ok {P : Program} {σ σ' : St} {o : Oper} {b : Builtin} {ts : Array TypeId} {xs : Array Operand} (ho : o.op = .call { callee := .builtin b, args := xs, argTypes := ts }) (hd : okDst σ.n o.dst = true)
    (h : stBuiltin P σ o.dst b ts o.type xs = some σ') : OpOk P o σ σ' := by
  intro E a w K hR
  unfold stBuiltin at h
  obtain ⟨us, hus, h⟩ := Option.bind_eq_some_iff.1 h
  obtain ⟨r, hr, rfl⟩ := Option.map_eq_some_iff.1 h
  obtain ⟨nx, hnx, hr⟩ := Option.bind_eq_some_iff.1 hr
  have e := toVs_eq hus (P2.evs hR xs.toList)
  have hnx' : nx = .value r := by
    cases nx <;> simp [valOf] at hr
    subst hr; rfl
  subst hnx'
  refine ⟨r, w, K, .inl ?_, hR.put_pure hd (Rv.const r) (bel_const _ r)⟩
  have e2 : xs.map a.eval = ⟨us⟩ := by rw [← e]; apply Array.ext'; simp
  simp only [execOp, ho, resolve, invoke, Sem.run_bind]
  simp only [Sem.run_pure, Result.andThen_ok]
  rw [e2]
  refine Eq.trans (congrArg (fun q => (builtin b ts o.type q ⟨us⟩).run P w) ?_) (pr_run P _ _ w hnx)
  rfl
end Go.Fw
/- Appending. -/
set_option autoImplicit false
namespace Go.Fw
def byteD (b : UInt8) : DVal := .v (.int .u8 b.toNat)
def srcL (σ : St) : AVal → Option (List DVal)
  | .d (.list xs) => some xs
  | .d (.v (.string s)) => some (s.data.toList.map byteD)
  | .nils => some []
  | .ref l t n =>
    match σ.H l t with
    | .arr _ xs => bif Nat.beq n xs.length then some xs else none
    | .frz xs => bif Nat.beq n xs.length then some xs else none
    | _ => none
  | _ => none
/-- What a slice or a text holds, as append reads it. -/
structure Src (P : Program) (bad : Nat → Prop) (w : World) (n : Nat) (ys : List DVal) (v : Value) (vs : List Value) : Prop where
  rel : P2 (Rd bad w) (ys.flatMap DVal.cells) vs
  one : ∀ u ∈ vs, u.oneCell' = true
  len : Builtin.lenOf v = pure ys.length
  run : ∀ w', w'.heap = w.heap → (Builtin.firstCells n ys.length v).run P w' = .ok ⟨vs⟩ w'
theorem cell_heap {w w' : World} (h : w'.heap = w.heap) (a : Addr) : w'.cell? a = w.cell? a := by unfold World.cell?; rw [h]
theorem src_slice {P : Program} {bad : Nat → Prop} {w : World} {n b o cap : Nat} {ys : List DVal} {f : Nat → Value} {a : Option Addr} (hs : ∀ y ∈ ys, y.cells.length = n)
    (hw : ∀ (j : Nat) (c : DVal), (ys.flatMap DVal.cells)[j]? = some c → w.cell? ⟨b, o + j, none⟩ = some (f j) ∧ (f j).oneCell' = true ∧ Rd bad w c (f j)) (ha : ys ≠ [] → a = some ⟨b, o, none⟩) :
    Src P bad w n ys (.slice a ys.length cap) ((List.range (ys.flatMap DVal.cells).length).map f) := by
  have hg : ∀ j u, ((List.range (ys.flatMap DVal.cells).length).map f)[j]? = some u → j < (ys.flatMap DVal.cells).length ∧ u = f j := fun j u hu => by
    rw [List.getElem?_map] at hu
    obtain ⟨q, hq, rfl⟩ := Option.map_eq_some_iff.1 hu
    have hlt : j < (ys.flatMap DVal.cells).length := by
      rcases Nat.lt_or_ge j (ys.flatMap DVal.cells).length with h | h
      · exact h
      · rw [List.getElem?_eq_none (by simpa using h)] at hq; cases hq
    rw [List.getElem?_range hlt] at hq
    simp only [Option.some.injEq] at hq
    exact ⟨hlt, by rw [hq]⟩
  refine ⟨⟨by simp, fun j c u hc hu => ?_⟩, fun u hu => ?_, rfl, fun w' hw' => ?_⟩
  · obtain ⟨_, rfl⟩ := hg j u hu
    exact (hw j c hc).2.2
  · obtain ⟨j, hj⟩ := List.mem_iff_getElem?.1 hu
    obtain ⟨hlt, rfl⟩ := hg j u hj
    exact (hw j _ (List.getElem?_eq_getElem hlt)).2.1
  · rcases List.eq_nil_or_concat ys with rfl | ⟨_, _, _⟩
    · cases a with
      | none => simp [Builtin.firstCells]
      | some ad => simp [Builtin.firstCells, loadCells, loadCellsFrom]
    · have hne : ys ≠ [] := fun e => by simp_all
      rw [ha hne]
      have hl := flat_len hs
      have := run_loadCells_list (P := P) w' ⟨b, o, none⟩ ((List.range (ys.flatMap DVal.cells).length).map f) (fun j u hu => by
        obtain ⟨hlt, rfl⟩ := hg j u hu
        rw [Addr.addo, cell_heap hw']
        exact (hw j _ (List.getElem?_eq_getElem hlt)).1)
      rw [List.length_map, List.length_range, hl] at this
      rw [hl]
      exact this
theorem src_ok {P : Program} {E : Env} {σ : St} {a : Act} {w : World} {K : Kt} {x : AVal} {v : Value} {ys : List DVal} {n : Nat} (hR : Rel E σ a w K) (h : srcL σ x = some ys) (hr : Rv (badOf E.S0 K σ.H) K w x v) (hs : ∀ y ∈ ys, y.cells.length = n) :
    ∃ vs, Src P (badOf E.S0 K σ.H) w n ys v vs := by
  have list : ∀ {ys : List DVal} {v : Value}, (∀ y ∈ ys, y.cells.length = n) → Rd (badOf E.S0 K σ.H) w (.list ys) v → ∃ vs, Src P (badOf E.S0 K σ.H) w n ys v vs := by
    intro ys v hs hd
    cases hd with
    | list hs' hc hw h1 h2 ha =>
      rename_i ad cap sz b o f
      exact ⟨_, src_slice (b := b) (o := o) (f := f) hs (fun j c hc => ⟨(hw j (List.getElem?_eq_some_iff.1 hc).1).2, h1 j (List.getElem?_eq_some_iff.1 hc).1, h2 j c hc⟩) ha⟩
  cases hr with
  | d hd =>
    cases hd with
    | v hv =>
      unfold srcL at h
      split at h
      · rename_i e; simp at e
      · rename_i s e
        simp only [AVal.d.injEq, DVal.v.injEq] at e
        subst e
        simp only [Option.some.injEq] at h
        subst h
        have hfl : (s.data.toList.map byteD).flatMap DVal.cells = s.data.toList.map byteD := by
          generalize s.data.toList = l
          induction l with
          | nil => rfl
          | cons c r ih => simp [List.flatMap_cons, ih, byteD, DVal.cells]
        refine ⟨s.data.toList.map fun b => .int .u8 b.toNat, ⟨by simp [hfl], fun j c u hc hu => ?_⟩, fun u hu => ?_, ?_, fun w' hw' => ?_⟩
        · rw [hfl, List.getElem?_map] at hc
          rw [List.getElem?_map] at hu
          obtain ⟨z, hz, rfl⟩ := Option.map_eq_some_iff.1 hc
          rw [hz] at hu
          simp only [Option.map_some, Option.some.injEq] at hu
          subst hu
          exact .v rfl
        · obtain ⟨z, _, rfl⟩ := List.mem_map.1 hu
          rfl
        · simp [Builtin.lenOf]
        · have e : (s.data.toList.map byteD).length = s.size := by simp
          simp only [Builtin.firstCells, e]
          have e2 : (s.extract 0 s.size).data = s.data := by simp
          simp [e2]
          apply Array.ext'
          simp
      · rename_i e; simp at e
      · rename_i e; simp at e
      · cases h
    | agg => simp [srcL] at h
    | list hs' hc hw h1 h2 ha =>
      simp only [srcL, Option.some.injEq] at h
      subst h
      exact list hs (.list hs' hc hw h1 h2 ha)
  | nils =>
    simp only [srcL, Option.some.injEq] at h
    subst h
    exact list hs Rd.nil
  | ref hk =>
    rename_i l t k cap sz ad
    simp only [srcL] at h
    have hob := hR.hr.ob l t
    cases hO : σ.H l t with
    | arr sz' xs =>
      rw [hO] at h hob
      simp only at h
      cases hc : Nat.beq k xs.length with
      | false => rw [hc] at h; cases h
      | true =>
        rw [hc] at h
        simp only [cond_true, Option.some.injEq] at h
        subst h
        have hkx := beq_eq hc
        subst hkx
        obtain ⟨_, ad', cap', hK, hss, hcap, hat⟩ := hob
        rw [hk] at hK
        simp only [Option.some.injEq, Prod.mk.injEq] at hK
        obtain ⟨rfl, rfl, rfl⟩ := hK
        cases ad with
        | none =>
          obtain ⟨rfl, _⟩ := hat
          exact list hs Rd.nil
        | some ad =>
          obtain ⟨b, off, sp⟩ := ad
          obtain ⟨hsp, vs, ty', fz, h2, _, _, h5⟩ := hat
          simp only at hsp h2 h5
          subst hsp
          refine ⟨_, src_slice (b := b) (o := off) (f := fun j => (w.cell? ⟨b, off + j, none⟩).getD default) hs (fun j c hjc => ?_) (fun _ => rfl)⟩
          obtain ⟨u, hu, hu1, hu2⟩ := h5 j c hjc
          have hcell : w.cell? ⟨b, off + j, none⟩ = some u := by simp [World.cell?, h2, hu]
          simp only [hcell, Option.getD_some]
          exact ⟨trivial, hu1, hu2⟩
    | frz xs =>
      rw [hO] at h hob
      simp only at h
      cases hc : Nat.beq k xs.length with
      | false => rw [hc] at h; cases h
      | true =>
        rw [hc] at h
        simp only [cond_true, Option.some.injEq] at h
        subst h
        have hkx := beq_eq hc
        subst hkx
        obtain ⟨ad', cap', sz', hK, hss, hrd⟩ := hob
        rw [hk] at hK
        simp only [Option.some.injEq, Prod.mk.injEq] at hK
        obtain ⟨rfl, rfl, rfl⟩ := hK
        exact list hs hrd
    | _ => rw [hO] at h; cases h
  | _ => simp [srcL] at h

def notInt (P : Program) (u : TypeId) : Bool := match P.underlying u with | some (.int _) => false | some _ => true | none => false
theorem run_notInt {P : Program} {u : TypeId} (h : notInt P u = true) (w : World) : ∃ d, (underlying u).run P w = .ok d w ∧ (match d with | .int _ => true | _ => false) = false := by
  unfold notInt at h
  cases hu : P.underlying u with
  | none => rw [hu] at h; cases h
  | some d =>
    rw [hu] at h
    refine ⟨d, by simp [underlying, hu], ?_⟩
    cases d <;> first | rfl | (simp at h)
structure AppTy (P : Program) (t u e : TypeId) (i : TypeInfo) (z : Value) : Prop where
  ht : P.underlying t = some (.slice e)
  hu : notInt P u = true
  hi : P.info? e = some i
  hz : i.zero = some z
  hs : z.cells.size = i.size
theorem append_room {P : Program} {w w' : World} {t u e ty : TypeId} {i : TypeInfo} {z : Value} (hT : AppTy P t u e i z) {bad : Nat → Prop} {ys : List DVal} {x : Value} {vs : List Value} (hS : Src P bad w i.size ys x vs) {g o sLen sCap : Nat}
    (hroom : sLen + ys.length ≤ sCap) (hst : (storeCells ⟨g, o + sLen * i.size, none⟩ vs).run P w = .ok () w') :
    (Builtin.append_ #[t, u] ty #[.slice (some ⟨g, o, none⟩) sLen sCap, x]).run P w = .ok (.slice (some ⟨g, o, none⟩) (sLen + ys.length) sCap) w' := by
  obtain ⟨d, hd1, hd2⟩ := run_notInt hT.hu w
  have hf := hS.run w rfl
  simp [Builtin.append_, run_underlying hT.ht, sizeOf, typeInfo, hT.hi, hS.len, hd1]
  cases d <;> first | (simp at hd2; done) | (simp [hroom, hf, Addr.addo, hst])
theorem append_room0 {P : Program} {w : World} {t u e ty : TypeId} {i : TypeInfo} {z : Value} (hT : AppTy P t u e i z) {bad : Nat → Prop} {x : Value} {vs : List Value} (hS : Src P bad w i.size [] x vs) {sLen sCap : Nat} (hroom : sLen ≤ sCap) :
    (Builtin.append_ #[t, u] ty #[.slice none sLen sCap, x]).run P w = .ok (.slice none sLen sCap) w := by
  obtain ⟨d, hd1, hd2⟩ := run_notInt hT.hu w
  have hf := hS.run w rfl
  have hl := hS.len
  simp only [List.length_nil] at hf hl
  simp [Builtin.append_, run_underlying hT.ht, sizeOf, typeInfo, hT.hi, hl, hd1]
  cases d <;> first | (simp at hd2; done) | (simp [hroom, hf])
theorem next_le5 {need old : Nat} (h : old < need) : 4 * Builtin.nextslicecap need old ≤ 5 * need + 2368 := by
  unfold Builtin.nextslicecap
  split
  · omega
  · split
    · omega
    · rw [growBy_four]
      repeat' split
      all_goals omega
theorem grow_fits {need bytes : Nat} (h : need * bytes ≤ 140737488355328 ∨ (need * bytes ≤ 211106232532992 ∧ bytes ≤ 1048576)) : ∀ old, old < need → Builtin.nextslicecap need old * bytes ≤ 281474976710656 := by
  intro old ho
  rcases h with h | ⟨h, hb⟩
  · exact growslice_fits ho h
  · have h1 := Nat.mul_le_mul_right bytes (next_le5 ho)
    rw [Nat.add_mul, Nat.mul_assoc, Nat.mul_assoc] at h1
    omega
theorem append_grow {P : Program} {w : World} {t u e ty : TypeId} {i : TypeInfo} {z : Value} (hT : AppTy P t u e i z) {bad bad' : Nat → Prop} {xs ys : List DVal} {s x : Value} {us vs : List Value} {base : Option Addr} {sCap : Nat} (hs : s = .slice base xs.length sCap) (hX : Src P bad' w i.size xs s us) (hS : Src P bad w i.size ys x vs)
    (hg : sCap < xs.length + ys.length) (h63 : ((xs.length + ys.length : Nat) : Int) ≤ 9223372036854775807) (hfit : ∀ old, old < xs.length + ys.length → Builtin.nextslicecap (xs.length + ys.length) old * i.bytes ≤ 281474976710656) :
    ∃ cap, xs.length + ys.length ≤ cap ∧ (Builtin.append_ #[t, u] ty #[s, x]).run P w =
      .ok (.slice (some ⟨w.heap.size, 0, none⟩) (xs.length + ys.length) cap) (w.drew.alloc (.cells ⟨us ++ vs ++ (Builtin.zeroCells z.cells (cap - (xs.length + ys.length))).toList⟩ e)) := by
  obtain ⟨d, hd1, hd2⟩ := run_notInt hT.hu w
  subst hs
  have hn : ¬ (xs.length + ys.length ≤ sCap) := by omega
  have h63' : ¬ (9223372036854775807 < ((xs.length : Int) + (ys.length : Int))) := by omega
  have h48 := hfit _ hg
  have h48' : ¬ (281474976710656 < Builtin.nextslicecap (xs.length + ys.length) sCap * i.bytes) := by omega
  have hf := hS.run w.drew rfl
  have hfo := hX.run w.drew rfl
  refine ⟨grownCap w (xs.length + ys.length) sCap e, grownCap_ge _ _ _ _, ?_⟩
  simp [Builtin.append_, run_underlying hT.ht, sizeOf, typeInfo, hT.hi, hS.len, hd1]
  cases d <;> first | (simp at hd2; done) | (simp [zeroValue, typeInfo, hT.hi, hT.hz, hn, h63', h48', Question.forced, hf, hfo, newRow, grownCap]; congr 2; apply Array.ext'; simp)

def extK (K : Kt) (l t n : Nat) (z : Option Addr × Nat × Nat) : Kt := fun l' t' n' => bif l' == l && t' == t && n' == n then some z else K l' t' n'
theorem extK_at {K : Kt} {l t n : Nat} {z : Option Addr × Nat × Nat} (n' : Nat) : extK K l t n z l t n' = if n' = n then some z else K l t n' := by
  simp only [extK, BEq.rfl, Bool.and_self, Bool.true_and]
  by_cases e : n' = n
  · simp [e]
  · have : (n' == n) = false := by simpa using e
    simp [this, e]
theorem extK_ne {K : Kt} {l t n : Nat} {z : Option Addr × Nat × Nat} (l' t' : Nat) (h : ¬ (l' = l ∧ t' = t)) : extK K l t n z l' t' = K l' t' := by
  have : (l' == l && t' == t) = false := by simpa using h
  funext n'
  simp [extK, this]
theorem extK_le {K : Kt} {l t n : Nat} {z : Option Addr × Nat × Nat} (h : ∀ z', K l t n = some z' → z' = z) : ∀ l' t' n' z', K l' t' n' = some z' → extK K l t n z l' t' n' = some z' := by
  intro l' t' n' z' hz
  by_cases e : l' = l ∧ t' = t
  · obtain ⟨rfl, rfl⟩ := e
    rw [extK_at]
    by_cases e : n' = n
    · subst e; rw [if_pos rfl, h z' hz]
    · rw [if_neg e]; exact hz
  · rw [extK_ne l' t' e]; exact hz

def allLen (n : Nat) (ys : List DVal) : Bool := ys.all fun y => Nat.beq y.cells.length n
theorem allLen_iff {n : Nat} {ys : List DVal} : allLen n ys = true ↔ ∀ y ∈ ys, y.cells.length = n := by
  unfold allLen
  rw [List.all_eq_true]
  exact ⟨fun h y hy => beq_eq (h y hy), fun h y hy => by rw [h y hy]; simp⟩
def appOk (P : Program) (u : TypeId) (i : TypeInfo) (n : Nat) (ys : List DVal) : Bool :=
  (i.zero).any (fun z => Nat.beq z.cells.size i.size) && notInt P u && allLen i.size ys && (Nat.ble (n * i.bytes) 140737488355328 || (Nat.ble (n * i.bytes) 211106232532992 && Nat.ble i.bytes 1048576)) && Nat.ble n 9223372036854775807
def stAppend (P : Program) (σ : St) (d : Nat) (t u : TypeId) (x y : AVal) : Option St :=
  (elemOf' P t).bind fun e => (P.info? e).bind fun i => (srcL σ y).bind fun ys =>
  match x with
  | .nils => bif appOk P u i ys.length ys then some (σ.alloc d (.arr i.size ys) (.ref σ.lev d ys.length)) else none
  | .ref l s k =>
    match σ.H l s with
    | .arr sz xs => bif appOk P u i (xs.length + ys.length) ys && Nat.beq k xs.length && Nat.beq sz i.size && Nat.ble l σ.lev then
        some (St.put { σ with H := σ.H.set l s (.arr sz (xs ++ ys)) } (some d) (.ref l s (xs.length + ys.length))) else none
    | _ => none
  | _ => none
theorem Ch.drew (w : World) : Ch (fun _ => False) w w.drew := ⟨rfl, rfl, rfl, Nat.le_refl _, Nat.le_succ _, fun _ _ _ => rfl⟩
theorem Ch.none_trans {o : Nat → Prop} {a b c : World} (h : Ch (fun _ => False) a b) (k : Ch (fun _ => False) b c) : Ch o a c := (h.trans k (fun _ e => e.elim)).mono (fun _ e => e.elim)
theorem Src.nil {P : Program} {bad : Nat → Prop} {w : World} {n cap : Nat} : Src P bad w n [] (.slice none 0 cap) [] :=
  ⟨⟨rfl, by simp⟩, by simp, rfl, fun w' _ => by simp [Builtin.firstCells]⟩
theorem size_zeroCells' (z : Array Value) (n : Nat) : (Builtin.zeroCells z n).toList.length = n * z.size := by simp [Builtin.zeroCells]
theorem exec_append {P : Program} {a : Act} {w w' : World} {o : Oper} {t u : TypeId} {x y : Operand} {r : Value} (ho : o.op = .call { callee := .builtin .append, args := #[x, y], argTypes := #[t, u] })
    (h : (Builtin.append_ #[t, u] o.type #[a.eval x, a.eval y]).run P w = .ok r w') : (execOp a.eval o).run P w = .ok (.value r) w' := by
  simp [execOp, ho, resolve, invoke, builtin, h]
theorem append_ok {P : Program} {σ σ' : St} {o : Oper} {t u : TypeId} {x y : Operand} {d : Nat} (ho : o.op = .call { callee := .builtin .append, args := #[x, y], argTypes := #[t, u] }) (hdd : o.dst = some d) (hd : okDst σ.n o.dst = true)
    (h : stAppend P σ d t u (evO σ x) (evO σ y) = some σ') : OpOk P o σ σ' := by
  intro E a w K hR
  unfold stAppend at h
  obtain ⟨e, he, h⟩ := Option.bind_eq_some_iff.1 h
  obtain ⟨i, hi, h⟩ := Option.bind_eq_some_iff.1 h
  obtain ⟨ys, hys, h⟩ := Option.bind_eq_some_iff.1 h
  have hu := elemOf_eq he
  rw [hdd] at hd ⊢
  have key : ∀ {n : Nat}, appOk P u i n ys = true → ∃ z, AppTy P t u e i z ∧ (∀ y ∈ ys, y.cells.length = i.size) ∧ (∀ old, old < n → Builtin.nextslicecap n old * i.bytes ≤ 281474976710656) ∧ (n : Int) ≤ 9223372036854775807 := by
    intro n hn
    unfold appOk at hn
    simp only [Bool.and_eq_true] at hn
    obtain ⟨⟨⟨⟨h1, h2⟩, h3⟩, h4⟩, h5⟩ := hn
    cases hz : i.zero with
    | none => rw [hz] at h1; simp at h1
    | some z =>
      rw [hz] at h1
      simp only [Option.any_some] at h1
      exact ⟨z, ⟨hu, h2, hi, hz, beq_eq h1⟩, allLen_iff.1 h3, grow_fits (by
        simp only [Bool.or_eq_true, Bool.and_eq_true, Nat.ble_eq] at h4
        exact h4), by have := Nat.le_of_ble_eq_true h5; omega⟩
  have hx := hR.ev x
  have hb := hR.evb x
  generalize hv : a.eval x = v at hx
  generalize evO σ x = q at hx hb h
  have hy := hR.ev y
  cases hx with
  | nils =>
    simp only at h
    cases hc : appOk P u i ys.length ys with
    | false => rw [hc] at h; cases h
    | true =>
      rw [hc] at h
      simp only [cond_true, Option.some.injEq] at h
      subst h
      obtain ⟨z, hT, hlen, h48, h63⟩ := key hc
      obtain ⟨vs, hS⟩ := src_ok (P := P) hR hys hy hlen
      cases ys with
      | nil =>
        obtain ⟨K', hK'⟩ := hR.arr (d := d) (sz := i.size) (xs := []) (ad := none) (cap := 0) (w' := w) hd (Ch.refl _ w) (by simp) (Nat.le_refl _) ⟨rfl, rfl⟩ (by simp)
        exact ⟨_, w, K', .inl (exec_append ho (by rw [hv]; exact append_room0 hT hS (Nat.le_refl _))), hK'⟩
      | cons y0 yr =>
        obtain ⟨cap, hcap, hrun⟩ := append_grow (ty := o.type) (t := t) (u := u) (xs := []) (s := .slice none 0 0) (us := []) (bad' := fun _ => False) hT rfl Src.nil hS (by simp) (by simpa using h63) (by simpa using h48)
        simp only [List.length_nil, Nat.zero_add, List.nil_append] at hcap hrun
        obtain ⟨K', hK'⟩ := hR.arr (d := d) (sz := i.size) (xs := y0 :: yr) (ad := some ⟨w.heap.size, 0, none⟩) (cap := cap) (w' := w.drew.alloc (.cells ⟨vs ++ (Builtin.zeroCells z.cells (cap - (y0 :: yr).length)).toList⟩ e)) hd (Ch.none_trans (Ch.drew w) (Ch.alloc _ _)) hlen hcap
          ⟨rfl, _, e, (0, 0), heap_alloc_new w.drew _, by simp, by
            rw [List.length_append, size_zeroCells', hT.hs, hS.rel.1, flat_len hlen, ← Nat.add_mul, Nat.add_sub_cancel' hcap]
            simp, fun j c hc => by
              have hlt : j < vs.length := by rw [hS.rel.1]; exact (List.getElem?_eq_some_iff.1 hc).1
              exact ⟨vs[j], by rw [Nat.zero_add, List.getElem?_append_left hlt, List.getElem?_eq_getElem hlt], hS.one _ (List.getElem_mem hlt), hS.rel.2 j c _ hc (List.getElem?_eq_getElem hlt)⟩⟩ (by simp)
        exact ⟨_, _, K', .inl (exec_append ho (by rw [hv]; exact hrun)), hK'⟩
  | ref hk =>
    rename_i l s k cap sz ad
    simp only at h
    have hob := hR.hr.ob l s
    cases hO : σ.H l s with
    | arr sz' xs =>
      rw [hO] at h hob
      simp only at h
      cases hc : (appOk P u i (xs.length + ys.length) ys && Nat.beq k xs.length && Nat.beq sz' i.size && Nat.ble l σ.lev) with
      | false => rw [hc] at h; cases h
      | true =>
        rw [hc] at h
        simp only [cond_true, Option.some.injEq] at h
        subst h
        simp only [Bool.and_eq_true] at hc
        obtain ⟨⟨⟨c0, c1⟩, c2⟩, c3⟩ := hc
        obtain ⟨z, hT, hlen, h48, h63⟩ := key c0
        obtain ⟨vs, hS⟩ := src_ok (P := P) hR hys hy hlen
        have hkx := beq_eq c1
        subst hkx
        have hsz := beq_eq c2
        subst hsz
        have hlev := Nat.le_of_ble_eq_true c3
        obtain ⟨hn0, ad', cap', hK, hss, hcap, hat⟩ := hob
        rw [hk] at hK
        simp only [Option.some.injEq, Prod.mk.injEq] at hK
        obtain ⟨rfl, rfl, rfl⟩ := hK
        have hbel : (AVal.ref l s (xs.length + ys.length)).bel (σ.lev + 1) = true := hb
        have hall : ∀ x ∈ xs ++ ys, x.cells.length = i.size := fun x hx => by
          rcases List.mem_append.1 hx with hx | hx
          · exact hss x hx
          · exact hlen x hx
        rcases Nat.lt_or_ge cap (xs.length + ys.length) with hg | hroom
        · -- a new row
          obtain ⟨us, hX⟩ := src_ok (P := P) (n := i.size) (x := .ref l s xs.length) (v := a.eval x) hR (by simp only [srcL, hO, Nat.beq_refl, cond_true]) (by rw [hv]; exact .ref hk) hss
          obtain ⟨cap2, hcap2, hrun⟩ := append_grow (ty := o.type) (t := t) (u := u) hT hv hX hS hg h63 h48
          let zz : Option Addr × Nat × Nat := (some ⟨w.heap.size, 0, none⟩, cap2, i.size)
          have hKle := extK_le (K := K) (l := l) (t := s) (n := xs.length + ys.length) (z := zz) (fun z' hz' => by rw [hn0 _ (by omega)] at hz'; cases hz')
          have hch : Ch (fun _ => False) w (w.drew.alloc (.cells ⟨us ++ vs ++ (Builtin.zeroCells z.cells (cap2 - (xs.length + ys.length))).toList⟩ e)) := Ch.none_trans (Ch.drew w) (Ch.alloc _ _)
          have hch' : Ch (fun b => (σ.H l s).own K l s b) w (w.drew.alloc (.cells ⟨us ++ vs ++ (Builtin.zeroCells z.cells (cap2 - (xs.length + ys.length))).toList⟩ e)) := hch.mono (fun _ h => h.elim)
          have hown : ∀ b, (AObj.arr i.size (xs ++ ys)).own (extK K l s (xs.length + ys.length) zz) l s b → (σ.H l s).own K l s b ∨ w.heap.size ≤ b := fun b hb' => by
            obtain ⟨o', z', hz⟩ := hb'
            rw [List.length_append, extK_at, if_pos rfl] at hz
            simp only [Option.some.injEq, Prod.mk.injEq, Addr.mk.injEq, zz] at hz
            exact .inr (by omega)
          have hkp := Keeps.write hR.hr hch' (fun l' t' hn => extK_ne l' t' hn) hown
          have hr' := hR.hr.write hch' hKle (fun l' t' hn => extK_ne l' t' hn) hown (by
            refine ⟨fun n hn => ?_, some ⟨w.heap.size, 0, none⟩, cap2, by rw [List.length_append, extK_at, if_pos rfl], hall, by rw [List.length_append]; exact hcap2, rfl, _, e, (0, 0), heap_alloc_new w.drew _, by simp, ?_, fun j c hc => ?_⟩
            · rw [List.length_append] at hn
              rw [extK_at, if_neg (by omega)]
              exact hn0 n (by omega)
            · rw [List.length_append, List.length_append, size_zeroCells', hT.hs, hS.rel.1, hX.rel.1, flat_len hlen, flat_len hss, ← Nat.add_mul, ← Nat.add_mul, Nat.add_sub_cancel' hcap2]
              simp
            · have hp := (hX.rel.append hS.rel)
              rw [← List.flatMap_append] at hp
              have hlt : j < (us ++ vs).length := by rw [hp.1]; exact (List.getElem?_eq_some_iff.1 hc).1
              refine ⟨(us ++ vs)[j], by rw [Nat.zero_add, List.getElem?_append_left hlt, List.getElem?_eq_getElem hlt], ?_, (hp.2 j c _ hc (List.getElem?_eq_getElem hlt)).mono hkp⟩
              have hm := List.getElem_mem hlt
              rcases List.mem_append.1 hm with hm | hm
              · exact hX.one _ hm
              · exact hS.one _ hm) rfl hlev
          exact ⟨_, _, _, .inl (exec_append ho hrun), hR.put hd hr' hkp hKle (.ref (by rw [extK_at, if_pos rfl])) hbel⟩
        · -- there is room
          cases ad with
          | none =>
            obtain ⟨rfl, rfl⟩ := hat
            obtain rfl : ys = [] := List.length_eq_zero_iff.1 (by simp at hroom; simpa using hroom)
            have hr' : HRel E σ.lev (σ.H.set l s (.arr i.size ([] ++ []))) w K := hR.hr.write (Ch.refl _ w) (fun _ _ _ _ hz => hz) (fun _ _ _ => rfl) (fun b hb' => .inl (by rw [hO]; exact hb')) ⟨hn0, none, 0, hk, hss, Nat.le_refl _, rfl, rfl⟩ rfl hlev
            have hkp := Keeps.write (o' := .arr i.size ([] ++ [])) hR.hr (Ch.refl _ w) (fun _ _ _ => rfl) (fun b hb' => .inl (by rw [hO]; exact hb'))
            exact ⟨_, w, K, .inl (exec_append ho (by rw [hv]; exact append_room0 hT hS (Nat.le_refl _))), hR.put hd hr' hkp (fun _ _ _ _ hz => hz) (.ref hk) hbel⟩
          | some ad =>
            obtain ⟨g, off, sp⟩ := ad
            obtain ⟨hsp, cur, ty', fz, h2, h3, h4, h5⟩ := hat
            simp only at hsp h2 h4 h5
            subst hsp
            have hfv : vs.length = ys.length * i.size := by rw [hS.rel.1, flat_len hlen]
            have hmul : (xs.length + ys.length) * i.size ≤ cap * i.size := Nat.mul_le_mul_right _ hroom
            rw [Nat.add_mul] at hmul
            obtain ⟨w', hw1, hw2, hw3⟩ := storeCells_ok P g ty' fz vs (off + xs.length * i.size) 0 cur w h2 h3 (by omega) hS.one
            let zz : Option Addr × Nat × Nat := (some ⟨g, off, none⟩, cap, i.size)
            have hKle := extK_le (K := K) (l := l) (t := s) (n := xs.length + ys.length) (z := zz) (fun z' hz' => by
              rcases Nat.eq_zero_or_pos ys.length with e0 | e0
              · rw [e0, Nat.add_zero, hk] at hz'
                simp only [Option.some.injEq] at hz'
                exact hz'.symm
              · rw [hn0 _ (by omega)] at hz'; cases hz')
            have hownb : (σ.H l s).own K l s g := by rw [hO]; exact ⟨off, _, hk⟩
            have hch' : Ch (fun b => (σ.H l s).own K l s b) w w' := hw3.mono (fun b e => e ▸ hownb)
            have hown : ∀ b, (AObj.arr i.size (xs ++ ys)).own (extK K l s (xs.length + ys.length) zz) l s b → (σ.H l s).own K l s b ∨ w.heap.size ≤ b := fun b hb' => by
              obtain ⟨o', z', hz⟩ := hb'
              rw [List.length_append, extK_at, if_pos rfl] at hz
              simp only [Option.some.injEq, Prod.mk.injEq, Addr.mk.injEq, zz] at hz
              left
              rw [← hz.1.1]
              exact hownb
            have hkp := Keeps.write hR.hr hch' (fun l' t' hn => extK_ne l' t' hn) hown
            have hr' := hR.hr.write hch' hKle (fun l' t' hn => extK_ne l' t' hn) hown (by
              refine ⟨fun n hn => ?_, some ⟨g, off, none⟩, cap, by rw [List.length_append, extK_at, if_pos rfl], hall, by rw [List.length_append]; exact hroom, rfl, _, ty', fz, hw2, ?_, ?_, fun j c hc => ?_⟩
              · rw [List.length_append] at hn
                rw [extK_at, if_neg (by omega)]
                exact hn0 n (by omega)
              · intro j hj
                refine h3 j ?_
                simp only [List.length_append, List.length_take, List.length_drop] at hj
                omega
              · simp only [List.length_append, List.length_take, List.length_drop]; omega
              · have hlx := flat_len hss
                rw [List.flatMap_append] at hc
                simp only [Nat.add_zero]
                rcases Nat.lt_or_ge j (xs.flatMap DVal.cells).length with q1 | q1
                · rw [List.getElem?_append_left q1] at hc
                  obtain ⟨u', hu1, hu2, hu3⟩ := h5 j c hc
                  refine ⟨u', ?_, hu2, hu3.mono hkp⟩
                  rw [List.append_assoc, List.getElem?_append_left (by rw [List.length_take]; omega), List.getElem?_take_of_lt (by omega)]
                  exact hu1
                · rw [List.getElem?_append_right q1] at hc
                  have hlt : j - (xs.flatMap DVal.cells).length < vs.length := by rw [hS.rel.1]; exact (List.getElem?_eq_some_iff.1 hc).1
                  refine ⟨vs[j - (xs.flatMap DVal.cells).length], ?_, hS.one _ (List.getElem_mem hlt), (hS.rel.2 _ c _ hc (List.getElem?_eq_getElem hlt)).mono hkp⟩
                  have hl2 : (cur.take (off + xs.length * i.size)).length = off + xs.length * i.size := by rw [List.length_take]; omega
                  rw [List.append_assoc, List.getElem?_append_right (by omega), List.getElem?_append_left (by omega), hl2, ← List.getElem?_eq_getElem hlt]
                  congr 1
                  omega) rfl hlev
            exact ⟨_, _, _, .inl (exec_append ho (by rw [hv]; exact append_room hT hS hroom hw1)), hR.put hd hr' hkp hKle (.ref (by rw [extK_at, if_pos rfl])) hbel⟩
    | _ => rw [hO] at h; cases h
  | _ => cases h
end Go.Fw
/- Literals of structs and slices; made slices. -/
set_option autoImplicit false
namespace Go.Fw
def fillD (place : Nat → Option (Nat × Nat)) : List DVal → List (Nat × DVal) → Option (List DVal)
  | cs, [] => some cs
  | cs, (i, y) :: r =>
    match place i with
    | none => none
    | some (off, size) => bif Nat.beq y.cells.length size && Nat.ble (off + size) cs.length then fillD place (cs.take off ++ y.cells ++ cs.drop (off + size)) r else none
theorem foldl_seg (off : Nat) (l : List Value) (cs : Array Value) (h : off + l.length ≤ cs.size) :
    ((l.zipIdx 0).foldl (fun cs (x : Value × Nat) => cs.setIfInBounds (off + x.2) x.1) cs).toList = cs.toList.take off ++ l ++ cs.toList.drop (off + l.length) := by
  obtain ⟨h1, h2⟩ := Great.foldl_set off l 0 cs
  apply List.ext_getElem?
  intro k
  rw [Array.getElem?_toList, h2 k]
  have ht : (cs.toList.take off).length = off := by rw [List.length_take, Array.length_toList]; omega
  by_cases hk : off + 0 ≤ k ∧ k < off + 0 + l.length ∧ k < cs.size
  · rw [if_pos hk, List.append_assoc, List.getElem?_append_right (by omega), List.getElem?_append_left (by omega), ht]
    congr 1
  · rw [if_neg hk]
    rcases Nat.lt_or_ge k off with q | q
    · rw [List.append_assoc, List.getElem?_append_left (by omega), List.getElem?_take_of_lt q, Array.getElem?_toList]
    · rcases Nat.lt_or_ge k (off + l.length) with q2 | q2
      · omega
      · rw [List.getElem?_append_right (by rw [List.length_append]; omega), List.length_append, ht, List.getElem?_drop, Array.getElem?_toList]
        congr 1
        omega
theorem fill_ok {bad : Nat → Prop} {w : World} {place : Nat → Option (Nat × Nat)} : ∀ (ps : List (Nat × DVal)) (pvs : List (Nat × Value)) (cs cs' : List DVal) (vs : Array Value), P2 (Rd bad w) cs vs.toList → (∀ u ∈ vs.toList, u.oneCell' = true) →
    P2 (fun p q => q.1 = p.1 ∧ Rd bad w p.2 q.2) ps pvs → fillD place cs ps = some cs' → ∃ vs', Instr.fill place vs pvs = some vs' ∧ P2 (Rd bad w) cs' vs'.toList ∧ (∀ u ∈ vs'.toList, u.oneCell' = true)
  | [], pvs, cs, cs', vs, hp, h1, hq, h => by
    obtain rfl : pvs = [] := List.length_eq_zero_iff.1 (by simpa using hq.1)
    simp only [fillD, Option.some.injEq] at h
    subst h
    exact ⟨vs, rfl, hp, h1⟩
  | (i, y) :: r, pvs, cs, cs', vs, hp, h1, hq, h => by
    cases pvs with
    | nil => have := hq.1; simp at this
    | cons q qs =>
      obtain ⟨i', v⟩ := q
      obtain ⟨h0, hrd⟩ := hq.2 0 (i, y) (i', v) rfl rfl
      simp only at h0 hrd
      subst h0
      simp only [fillD] at h
      cases hpl : place i' with
      | none => rw [hpl] at h; cases h
      | some p =>
        obtain ⟨off, size⟩ := p
        rw [hpl] at h
        simp only at h
        cases hc : (Nat.beq y.cells.length size && Nat.ble (off + size) cs.length) with
        | false => rw [hc] at h; cases h
        | true =>
          rw [hc] at h
          simp only [cond_true] at h
          simp only [Bool.and_eq_true] at hc
          have e1 := beq_eq hc.1
          have e2 := Nat.le_of_ble_eq_true hc.2
          obtain ⟨hP, hone⟩ := cells_of_rd hrd
          have hlv : v.cells.toList.length = size := by rw [hP.1, e1]
          have hvs : vs.size = cs.length := by have := hp.1; simpa using this
          have hseg := foldl_seg off v.cells.toList vs (by rw [hlv]; omega)
          rw [hlv] at hseg
          have hfold : v.cells.zipIdx.foldl (fun cs x => cs.setIfInBounds (off + x.2) x.1) vs = (v.cells.toList.zipIdx 0).foldl (fun cs (x : Value × Nat) => cs.setIfInBounds (off + x.2) x.1) vs := by
            rw [← Array.foldl_toList, Array.toList_zipIdx]
          obtain ⟨vs', g1, g2, g3⟩ := fill_ok r qs _ cs' _ (by rw [hseg]; exact ((hp.take off).append hP).append (hp.drop (off + size))) (by
            rw [hseg]
            intro u hu
            simp only [List.mem_append] at hu
            rcases hu with (hu | hu) | hu
            · exact h1 u (List.mem_of_mem_take hu)
            · obtain ⟨j, hj⟩ := List.mem_iff_getElem?.1 hu
              exact hone j u hj
            · exact h1 u (List.mem_of_mem_drop hu)) ⟨by have := hq.1; simpa using this, fun j a b ha hb => hq.2 (j + 1) a b (by simpa using ha) (by simpa using hb)⟩ h
          refine ⟨vs', ?_, g2, g3⟩
          unfold Instr.fill
          simp only [hpl]
          have hsz : v.cells.size = size := by simpa using hlv
          rw [if_neg (by simp only [hsz, ne_eq, not_true_eq_false, Bool.or_eq_true, decide_eq_true_eq, false_or]; simp; omega), hfold]
          exact g1

theorem P2.const {bad : Nat → Prop} {w : World} {vs : List Value} (h : ∀ u ∈ vs, u.oneCell' = true) : P2 (Rd bad w) (vs.map constD) vs := by
  refine ⟨by simp, fun j c u hc hu => ?_⟩
  rw [List.getElem?_map, hu] at hc
  simp only [Option.map_some, Option.some.injEq] at hc
  subst hc
  exact Rd.const (h u (List.mem_of_getElem? hu))
def placesOf (P : Program) (t : TypeId) : Option (List (Nat × Nat)) :=
  match P.underlying t with
  | some (.struct fs) => fs.toList.mapM fun f => (P.info? f.type).map fun i => (f.offset, i.size)
  | _ => none
def zipI (ps : List (Nat × Operand)) (ys : List DVal) : List (Nat × DVal) := (ps.map (·.1)).zip ys
def stBuild (P : Program) (σ : St) (dst : Option Tmp) (t : TypeId) (parts : Array (Nat × Operand)) : Option St :=
  (zeroC P t).bind fun zs => (placesOf P t).bind fun places => (frzL σ (parts.toList.map fun p => evO σ p.2)).bind fun q =>
  bif zs.all (·.oneCell') then (fillD (places[·]?) (zs.map constD) (zipI parts.toList q.1)).map fun cs => q.2.put dst (.d (.agg cs)) else none
theorem parts_rel {E : Env} {σ σ1 : St} {a : Act} {w : World} {K : Kt} {parts : List (Nat × Operand)} {ys : List DVal} (hR : Rel E σ a w K) (hq : frzL σ (parts.map fun p => evO σ p.2) = some (ys, σ1)) :
    Frz E w K σ σ1 ∧ P2 (fun p q => q.1 = p.1 ∧ Rd (badOf E.S0 K σ1.H) w p.2 q.2) (zipI parts ys) (parts.map fun p => (p.1, a.eval p.2)) := by
  obtain ⟨F, hl, G⟩ := frzL_ok hR hq
  simp only [List.length_map] at hl
  refine ⟨F, by simp [zipI, hl], fun j x y hx hy => ?_⟩
  rw [zipI, List.getElem?_zip_eq_some, List.getElem?_map] at hx
  obtain ⟨hx1, hx2⟩ := hx
  obtain ⟨p, hp, hp1⟩ := Option.map_eq_some_iff.1 hx1
  rw [List.getElem?_map, hp] at hy
  simp only [Option.map_some, Option.some.injEq] at hy
  subst hy
  exact ⟨hp1, G j _ x.2 _ (by rw [List.getElem?_map, hp]; rfl) hx2 (hR.ev p.2)⟩
theorem build_ok {P : Program} {σ σ' : St} {o : Oper} {t : TypeId} {parts : Array (Nat × Operand)} (ho : o.op = .build t parts) (hd : okDst σ.n o.dst = true) (h : stBuild P σ o.dst t parts = some σ') : OpOk P o σ σ' := by
  intro E a w K hR
  unfold stBuild at h
  obtain ⟨zs, hzs, h⟩ := Option.bind_eq_some_iff.1 h
  obtain ⟨places, hpl, h⟩ := Option.bind_eq_some_iff.1 h
  obtain ⟨⟨ys, σ1⟩, hq, h⟩ := Option.bind_eq_some_iff.1 h
  cases hall : zs.all (·.oneCell') with
  | false => rw [hall] at h; cases h
  | true =>
    rw [hall] at h
    simp only [cond_true] at h
    obtain ⟨cs, hcs, rfl⟩ := Option.map_eq_some_iff.1 h
    obtain ⟨F, hp⟩ := parts_rel hR hq
    obtain ⟨z, hz, rfl⟩ := Option.map_eq_some_iff.1 hzs
    obtain ⟨it, hit, hitz⟩ := Option.bind_eq_some_iff.1 hz
    have h1 : ∀ u ∈ z.cells.toList, u.oneCell' = true := List.all_eq_true.1 hall
    obtain ⟨vs', g1, g2, g3⟩ := fill_ok _ _ _ cs z.cells (P2.const h1) h1 hp hcs
    have hb : P.built t (parts.map fun (i, x) => (i, a.eval x)).toList = some vs' := by
      unfold placesOf at hpl
      unfold Program.built
      cases hu : P.underlying t with
      | none => rw [hu] at hpl; cases hpl
      | some d =>
        rw [hu] at hpl
        cases d with
        | struct fs =>
          simp only at hpl
          simp only [hit, hitz, hpl]
          have e : (fun x : Nat => places.toArray[x]?) = fun x => places[x]? := by funext x; simp
          rw [e, Array.toList_map]
          exact g1
        | _ => cases hpl
    have hrun := run_build (P := P) w t _ vs' hb
    refine ⟨.agg vs', w, K, .inl ?_, (F.rel a hR).put_pure (by rw [F.n]; exact hd) (.d ?_) rfl⟩
    · simp only [execOp, ho]
      simp [hrun]
    · have := Rd.agg (bad := badOf E.S0 K σ1.H) (w := w) (cs := cs) (vs := vs'.toList) g2.1 (fun j x hx => g3 x (List.mem_of_getElem? hx)) g2.2
      simpa using this

def zeroD (z : Value) : DVal := match z with | .agg cs => .agg (cs.toList.map constD) | z => constD z
def setAll : List DVal → List (Nat × DVal) → List DVal
  | es, [] => es
  | es, (i, y) :: r => setAll (es.set i y) r
def stBuildSlice (P : Program) (σ : St) (d : Nat) (t : TypeId) (len : Nat) (parts : Array (Nat × Operand)) : Option St :=
  (elemOf' P t).bind fun e => (P.info? e).bind fun i => (i.zero).bind fun z => (frzL σ (parts.toList.map fun p => evO σ p.2)).bind fun q =>
  bif z.cells.toList.all (·.oneCell') && Nat.beq z.cells.size i.size && Nat.blt 0 i.size && Nat.ble (len * i.size) 16777216 && (zipI parts.toList q.1).all (fun p => Nat.blt p.1 len && Nat.beq p.2.cells.length i.size) then
    (let es := setAll (List.replicate len (zeroD z)) (zipI parts.toList q.1)
     some (q.2.alloc d (.arr i.size es) (.ref q.2.lev d len))) else none
theorem zeroD_cells {z : Value} (h : z.cells.toList.all (·.oneCell') = true) : (zeroD z).cells = z.cells.toList.map constD := by
  unfold zeroD
  cases z with
  | agg cs => rfl
  | slice a n c =>
    have : (Value.slice a n c).cells.toList = [.slice a n c] := rfl
    rw [this]
    simp only [List.map_cons, List.map_nil]
    unfold constD
    split <;> rfl
  | _ => rfl
theorem setAll_len : ∀ (ps : List (Nat × DVal)) (es : List DVal), (setAll es ps).length = es.length
  | [], _ => rfl
  | (i, y) :: r, es => by rw [setAll, setAll_len r]; simp
theorem setAll_fill {sz : Nat} : ∀ (ps : List (Nat × DVal)) (es : List DVal), (∀ x ∈ es, x.cells.length = sz) → (∀ p ∈ ps, p.1 < es.length ∧ p.2.cells.length = sz) →
    fillD (fun i => some (i * sz, sz)) (es.flatMap DVal.cells) ps = some ((setAll es ps).flatMap DVal.cells) ∧ (∀ x ∈ setAll es ps, x.cells.length = sz)
  | [], es, hs, _ => ⟨rfl, hs⟩
  | (i, y) :: r, es, hs, hp => by
    obtain ⟨h1, h2⟩ := hp (i, y) (by simp)
    simp only at h1 h2
    have hi : es[i]? = some es[i] := List.getElem?_eq_getElem h1
    have hset := flat_set (e' := y) hs hi 0 y.cells (by omega) (by
      have hh := hs es[i] (List.getElem_mem h1)
      rw [List.take_zero, List.drop_of_length_le (by omega)]
      simp)
    have hs' : ∀ x ∈ es.set i y, x.cells.length = sz := fun x hx => by
      rcases List.mem_or_eq_of_mem_set hx with hx | hx
      · exact hs x hx
      · subst hx; exact h2
    obtain ⟨g1, g2⟩ := setAll_fill r (es.set i y) hs' (fun p hp' => by
      have := hp p (List.mem_cons_of_mem _ hp')
      simpa using this)
    refine ⟨?_, g2⟩
    have hmul : i * sz + sz ≤ es.length * sz := by
      have := Nat.mul_le_mul_right sz h1
      rwa [Nat.succ_mul] at this
    simp only [fillD]
    have hc : (Nat.beq y.cells.length sz && Nat.ble (i * sz + sz) (es.flatMap DVal.cells).length) = true := by
      rw [h2, flat_len hs]
      simp [Nat.ble_eq]
      omega
    rw [hc]
    simp only [cond_true]
    rw [Nat.add_zero, h2] at hset
    rw [← hset]
    exact g1
theorem flat_replicate (z : DVal) : ∀ n, (List.replicate n z).flatMap DVal.cells = (List.replicate n z.cells).flatten
  | 0 => rfl
  | n + 1 => by simp [List.replicate_succ, flat_replicate z n]
theorem flatten_get (l : List Value) : ∀ (n k : Nat), k < n * l.length → (List.replicate n l).flatten[k]? = l[k % l.length]?
  | 0, k, h => by simp at h
  | n + 1, k, h => by
    rw [List.replicate_succ, List.flatten_cons]
    rcases Nat.lt_or_ge k l.length with q | q
    · rw [List.getElem?_append_left q, Nat.mod_eq_of_lt q]
    · rw [List.getElem?_append_right q, flatten_get l n (k - l.length) (by rw [Nat.succ_mul] at h; omega), ← Nat.mod_eq_sub_mod q]
theorem range_zero (z : Array Value) (n : Nat) (h0 : 0 < z.size) : ((Array.range (n * z.size)).map (z[· % z.size]!)).toList = (List.replicate n z.toList).flatten := by
  apply List.ext_getElem?
  intro k
  rcases Nat.lt_or_ge k (n * z.size) with q | q
  · rw [flatten_get _ _ _ (by simpa using q)]
    have hm := Nat.mod_lt k h0
    simp [q]
    rw [getElem!_pos z (k % z.size) hm, Array.getElem?_eq_getElem hm]
  · have e : (List.replicate n z.toList).flatten.length = n * z.size := by simp
    rw [List.getElem?_eq_none (by simpa using q), List.getElem?_eq_none (by omega)]
theorem map_flatten_replicate {α β : Type} (f : α → β) (l : List α) (n : Nat) : (List.replicate n l).flatten.map f = (List.replicate n (l.map f)).flatten := by
  simp [List.map_flatten]
theorem buildSlice_ok {P : Program} {σ σ' : St} {o : Oper} {t : TypeId} {len d : Nat} {parts : Array (Nat × Operand)} (ho : o.op = .buildSlice t len parts) (hdd : o.dst = some d) (hd : okDst σ.n o.dst = true) (h : stBuildSlice P σ d t len parts = some σ') : OpOk P o σ σ' := by
  intro E a w K hR
  unfold stBuildSlice at h
  obtain ⟨e, he, h⟩ := Option.bind_eq_some_iff.1 h
  obtain ⟨i, hi, h⟩ := Option.bind_eq_some_iff.1 h
  obtain ⟨z, hz, h⟩ := Option.bind_eq_some_iff.1 h
  obtain ⟨⟨ys, σ1⟩, hq, h⟩ := Option.bind_eq_some_iff.1 h
  simp only at h
  rw [hdd] at hd ⊢
  cases hc : (z.cells.toList.all (·.oneCell') && Nat.beq z.cells.size i.size && Nat.blt 0 i.size && Nat.ble (len * i.size) 16777216 && (zipI parts.toList ys).all (fun p => Nat.blt p.1 len && Nat.beq p.2.cells.length i.size)) with
  | false => rw [hc] at h; cases h
  | true =>
    rw [hc] at h
    simp only [cond_true, Option.some.injEq] at h
    subst h
    simp only [Bool.and_eq_true] at hc
    obtain ⟨⟨⟨⟨c1, c2⟩, c3⟩, c4⟩, c5⟩ := hc
    have hzs := beq_eq c2
    have hpos : 0 < i.size := by simpa [Nat.blt_eq] using c3
    have hle := Nat.le_of_ble_eq_true c4
    obtain ⟨F, hp⟩ := parts_rel hR hq
    have h1 : ∀ u ∈ z.cells.toList, u.oneCell' = true := List.all_eq_true.1 c1
    have hzc := zeroD_cells c1
    have hes : ∀ x ∈ List.replicate len (zeroD z), x.cells.length = i.size := fun x hx => by
      rw [List.eq_of_mem_replicate hx, hzc]
      simpa using hzs
    obtain ⟨g1, g2⟩ := setAll_fill (sz := i.size) (zipI parts.toList ys) (List.replicate len (zeroD z)) hes (fun p hp' => by
      have := List.all_eq_true.1 c5 p hp'
      simp only [Bool.and_eq_true, Nat.blt_eq] at this
      exact ⟨by simpa using this.1, beq_eq this.2⟩)
    have hsl := setAll_len (zipI parts.toList ys) (List.replicate len (zeroD z))
    rw [List.length_replicate] at hsl
    have hz0 : ∀ u ∈ (List.replicate len z.cells.toList).flatten, u.oneCell' = true := fun u hu => by
      obtain ⟨l, hl, hul⟩ := List.mem_flatten.1 hu
      rw [List.eq_of_mem_replicate hl] at hul
      exact h1 u hul
    have hrng := range_zero z.cells len (by omega)
    rw [hzs] at hrng
    have hP0 : P2 (Rd (badOf E.S0 K σ1.H) w) ((List.replicate len (zeroD z)).flatMap DVal.cells) ((Array.range (len * i.size)).map (z.cells[· % z.cells.size]!)).toList := by
      rw [hzs, hrng, flat_replicate, hzc, ← map_flatten_replicate]
      exact P2.const hz0
    have hone0 : ∀ u ∈ ((Array.range (len * i.size)).map (z.cells[· % z.cells.size]!)).toList, u.oneCell' = true := by
      rw [hzs, hrng]; exact hz0
    obtain ⟨vs', f1, f2, f3⟩ := fill_ok _ _ _ _ _ hP0 hone0 hp g1
    have hrun : (Instr.buildSlice t len (parts.map fun (i, x) => (i, a.eval x))).run P w = .ok (.slice (some ⟨w.heap.size, 0, none⟩) len len) (w.alloc (.cells vs' e)) := by
      have hsmall : ¬ 16777216 < len * i.size := by omega
      have f1' : Instr.fill (fun j => some (j * i.size, i.size)) ((Array.range (len * i.size)).map (z.cells[· % z.cells.size]!)) (parts.map fun (i, x) => (i, a.eval x)).toList = some vs' := by
        rw [Array.toList_map]; exact f1
      by_cases h0 : len * i.size = 0
      · have e0 : (Array.range (len * i.size)).map (z.cells[· % z.cells.size]!) = #[] := by
          apply Array.ext'
          simp [h0]
        rw [e0] at f1'
        simp only [Instr.buildSlice, Sem.run_bind, run_underlying (elemOf_eq he), Result.andThen_ok]
        simp [sizeOf, typeInfo, hi, h0]
        simp only [Array.toList_map] at f1'
        have e9 : (Array.range 0).map (fun _ => (default : Value)) = #[] := by
          apply Array.ext'
          simp
        simp [e9, f1', newRow]
      · simp only [Instr.buildSlice, Sem.run_bind, run_underlying (elemOf_eq he), Result.andThen_ok]
        simp [sizeOf, typeInfo, zeroValue, hi, hz, hsmall, h0]
        simp only [Array.toList_map] at f1'
        simp [f1', newRow]
    have hR1 := F.rel a hR
    have hf2l : vs'.toList.length = len * i.size := by rw [f2.1, flat_len g2, hsl]
    obtain ⟨K', hK'⟩ := hR1.arr (d := d) (sz := i.size) (xs := setAll (List.replicate len (zeroD z)) (zipI parts.toList ys)) (ad := some ⟨w.heap.size, 0, none⟩) (cap := len) (w' := w.alloc (.cells vs' e)) (by rw [F.n]; exact hd) (Ch.alloc _ _) g2 (by omega)
      ⟨rfl, vs'.toList, e, (0, 0), by rw [heap_alloc_new], by simp, by simp only; omega, fun j c hcj => by
        have hlt : j < vs'.toList.length := by rw [f2.1]; exact (List.getElem?_eq_some_iff.1 hcj).1
        exact ⟨vs'.toList[j], by rw [Nat.zero_add, List.getElem?_eq_getElem hlt], f3 _ (List.getElem_mem hlt), f2.2 j c _ hcj (List.getElem?_eq_getElem hlt)⟩⟩ (by simp)
    rw [hsl] at hK'
    exact ⟨_, _, K', .inl (by simp only [execOp, ho]; simp [hrun]), hK'⟩

def stMakeSlice (P : Program) (σ : St) (d : Nat) (t : TypeId) (l c : AVal) : Option St :=
  (elemOf' P t).bind fun e => (P.info? e).bind fun i => (i.zero).bind fun z => (intOfA l).bind fun n => (intOfA c).bind fun m =>
  bif z.cells.toList.all (·.oneCell') && Nat.beq z.cells.size i.size && Nat.blt 0 i.size && decide (0 ≤ n) && decide (n ≤ m) && decide ((i.bytes : Int) * m ≤ 140737488355328) && decide (m ≤ 140737488355328) then
    some (σ.alloc d (.arr i.size (List.replicate n.toNat (zeroD z))) (.ref σ.lev d n.toNat)) else none
theorem makeSlice_ok {P : Program} {σ σ' : St} {o : Oper} {t : TypeId} {d : Nat} {l c : Operand} (ho : o.op = .makeSlice t l c) (hdd : o.dst = some d) (hd : okDst σ.n o.dst = true) (h : stMakeSlice P σ d t (evO σ l) (evO σ c) = some σ') : OpOk P o σ σ' := by
  intro E a w K hR
  unfold stMakeSlice at h
  obtain ⟨e, he, h⟩ := Option.bind_eq_some_iff.1 h
  obtain ⟨i, hi, h⟩ := Option.bind_eq_some_iff.1 h
  obtain ⟨z, hz, h⟩ := Option.bind_eq_some_iff.1 h
  obtain ⟨n, hn, h⟩ := Option.bind_eq_some_iff.1 h
  obtain ⟨m, hm, h⟩ := Option.bind_eq_some_iff.1 h
  obtain ⟨kl, hl⟩ := intOfA_eq hn (hR.ev l)
  obtain ⟨kc, hcc⟩ := intOfA_eq hm (hR.ev c)
  rw [hdd] at hd ⊢
  cases hc : (z.cells.toList.all (·.oneCell') && Nat.beq z.cells.size i.size && Nat.blt 0 i.size && decide (0 ≤ n) && decide (n ≤ m) && decide ((i.bytes : Int) * m ≤ 140737488355328) && decide (m ≤ 140737488355328)) with
  | false => rw [hc] at h; cases h
  | true =>
    rw [hc] at h
    simp only [cond_true, Option.some.injEq] at h
    subst h
    simp only [Bool.and_eq_true, decide_eq_true_eq] at hc
    obtain ⟨⟨⟨⟨⟨⟨c1, c2⟩, c3⟩, c4⟩, c5⟩, c6⟩, c7⟩ := hc
    have hzs := beq_eq c2
    have hpos : 0 < i.size := by simpa [Nat.blt_eq] using c3
    have h1 : ∀ u ∈ z.cells.toList, u.oneCell' = true := List.all_eq_true.1 c1
    have hzc := zeroD_cells c1
    have hrun := run_make (P := P) w t e i z (elemOf_eq he) hi hz kl kc n m c4 c5 (by omega) (by omega)
    have hes : ∀ x ∈ List.replicate n.toNat (zeroD z), x.cells.length = i.size := fun x hx => by
      rw [List.eq_of_mem_replicate hx, hzc]
      simpa using hzs
    have hrng := range_zero z.cells m.toNat (by omega)
    rw [hzs] at hrng
    have hmade : (madeCells z.cells (m.toNat * i.size)).toList = (List.replicate m.toNat z.cells.toList).flatten := by
      unfold madeCells
      rw [hzs]
      exact hrng
    have hlen : (madeCells z.cells (m.toNat * i.size)).toList.length = m.toNat * i.size := by rw [hmade]; simp [hzs]
    have hnm : n.toNat ≤ m.toNat := by omega
    have hone : ∀ u ∈ (madeCells z.cells (m.toNat * i.size)).toList, u.oneCell' = true := by
      rw [hmade]
      intro u hu
      obtain ⟨l', hl', hul⟩ := List.mem_flatten.1 hu
      rw [List.eq_of_mem_replicate hl'] at hul
      exact h1 u hul
    obtain ⟨K', hK'⟩ := hR.arr (d := d) (sz := i.size) (xs := List.replicate n.toNat (zeroD z)) (ad := some ⟨w.heap.size, 0, none⟩) (cap := m.toNat) (w' := w.alloc (.cells (madeCells z.cells (m.toNat * i.size)) e)) hd (Ch.alloc _ _) hes (by simpa using hnm)
      ⟨rfl, _, e, (0, 0), by rw [heap_alloc_new], by simp, by simp only; omega, fun j c hcj => by
        rw [flat_replicate, hzc] at hcj
        have hj : j < n.toNat * i.size := by
          have := (List.getElem?_eq_some_iff.1 hcj).1
          simpa [hzs] using this
        have hmul := Nat.mul_le_mul_right i.size hnm
        have hlt : j < (madeCells z.cells (m.toNat * i.size)).toList.length := by omega
        refine ⟨(madeCells z.cells (m.toNat * i.size)).toList[j], by rw [Nat.zero_add, List.getElem?_eq_getElem hlt], hone _ (List.getElem_mem hlt), ?_⟩
        have e1 : (madeCells z.cells (m.toNat * i.size)).toList[j]? = z.cells.toList[j % z.cells.toList.length]? := by
          rw [hmade, flatten_get _ _ _ (by simpa [hzs] using (by omega : j < m.toNat * i.size))]
        rw [← map_flatten_replicate, List.getElem?_map, flatten_get _ _ _ (by simpa [hzs] using hj)] at hcj
        obtain ⟨u, hu, rfl⟩ := Option.map_eq_some_iff.1 hcj
        rw [hu, List.getElem?_eq_getElem hlt] at e1
        simp only [Option.some.injEq] at e1
        rw [e1]
        exact Rd.const (h1 u (List.mem_of_getElem? hu))⟩ (by simp)
    rw [List.length_replicate] at hK'
    exact ⟨_, _, K', .inl (by simp only [execOp, ho, hl, hcc]; simp [hrun]), hK'⟩
end Go.Fw
/- Parts of slices; texts and bytes; empty slices. -/
set_option autoImplicit false
namespace Go.Fw
/-- A slice variable is set to nil: an array of one's own, empty. -/
def stNilSlice (P : Program) (σ : St) (d : Nat) (t : TypeId) : Option St :=
  (elemOf' P t).bind fun e => (szOf P e).map fun n => σ.alloc d (.arr n []) (.ref σ.lev d 0)
theorem nilSlice_ok {P : Program} {σ σ' : St} {o : Oper} {t : TypeId} {d : Nat} (ho : o.op = .assign (.const (.slice none 0 0))) (hdd : o.dst = some d) (hd : okDst σ.n o.dst = true) (h : stNilSlice P σ d t = some σ') : OpOk P o σ σ' := by
  intro E a w K hR
  unfold stNilSlice at h
  obtain ⟨e, he, h⟩ := Option.bind_eq_some_iff.1 h
  obtain ⟨n, hn, rfl⟩ := Option.map_eq_some_iff.1 h
  rw [hdd] at hd ⊢
  obtain ⟨K', hK'⟩ := hR.arr (d := d) (sz := n) (xs := []) (ad := none) (cap := 0) (w' := w) hd (Ch.refl _ w) (by simp) (Nat.le_refl _) ⟨rfl, rfl⟩ (by simp)
  exact ⟨.slice none 0 0, w, K', .inl (by simp [execOp, ho, Act.eval]), hK'⟩

/-! ### Parts -/
def optInt (σ : St) (d : Int) : Option Operand → Option Int
  | none => some d
  | some x => intOfA (evO σ x)
def stSliceL (P : Program) (σ : St) (dst : Option Tmp) (t : TypeId) (x : AVal) (lo hi : Option Operand) : Option St :=
  (elemOf' P t).bind fun e => (szOf P e).bind fun n => (frzV σ x).bind fun p =>
  match p.1 with
  | .list xs => (optInt σ 0 lo).bind fun l => (optInt σ xs.length hi).bind fun h =>
    bif decide (0 ≤ l) && decide (l ≤ h) && decide (h ≤ xs.length) && allLen n xs then some (p.2.put dst (.d (.list ((xs.drop l.toNat).take (h.toNat - l.toNat))))) else none
  | _ => none
theorem optInt_eq {E : Env} {σ : St} {a : Act} {w : World} {K : Kt} {d z : Int} {x : Option Operand} (hR : Rel E σ a w K) (h : optInt σ d x = some z) : (x = none ∧ z = d) ∨ ∃ y k, x = some y ∧ a.eval y = .int k z := by
  cases x with
  | none => simp only [optInt, Option.some.injEq] at h; exact .inl ⟨rfl, h.symm⟩
  | some y =>
    simp only [optInt] at h
    obtain ⟨k, hk⟩ := intOfA_eq h (hR.ev y)
    exact .inr ⟨y, k, rfl, hk⟩
theorem run_sliceBounds {P : Program} {E : Env} {σ : St} {a : Act} {w : World} {K : Kt} {l h : Int} {len cap : Nat} {lo hi : Option Operand} (hR : Rel E σ a w K) (h1 : optInt σ 0 lo = some l) (h2 : optInt σ len hi = some h) (h0 : 0 ≤ l) (hlh : l ≤ h) (hhl : h ≤ len) (hc : len ≤ cap) :
    (Instr.sliceBounds true len cap (lo.map a.eval) (hi.map a.eval) none).run P w = .ok (l.toNat, h.toNat, cap) w := by
  have b1 : 0 ≤ h := by omega
  have b2 : h ≤ cap := by omega
  rcases optInt_eq hR h1 with ⟨rfl, rfl⟩ | ⟨y1, k1, rfl, e1⟩
  · rcases optInt_eq hR h2 with ⟨rfl, rfl⟩ | ⟨y2, k2, rfl, e2⟩
    · simp [Instr.sliceBounds]
    · simp [Instr.sliceBounds, e2, Instr.sliceBound, asIntOf, b1, b2]
  · have b3 : l ≤ (h.toNat : Int) := by omega
    rcases optInt_eq hR h2 with ⟨rfl, rfl⟩ | ⟨y2, k2, rfl, e2⟩
    · simp at b3
      simp [Instr.sliceBounds, e1, Instr.sliceBound, asIntOf, h0, b3]
    · simp [Instr.sliceBounds, e1, e2, Instr.sliceBound, asIntOf, h0, b1, b2]
      have b4 : l ≤ h := hlh
      have e9 : max h 0 = h := by omega
      simp [e9]
      intro hbad
      omega
theorem flat_drop {sz : Nat} : ∀ {xs : List DVal} (_ : ∀ x ∈ xs, x.cells.length = sz) (l : Nat), (xs.drop l).flatMap DVal.cells = (xs.flatMap DVal.cells).drop (l * sz)
  | [], _, l => by simp
  | x :: r, hs, 0 => by simp
  | x :: r, hs, l + 1 => by
    have hx := hs x (by simp)
    simp only [List.drop_succ_cons, List.flatMap_cons]
    rw [flat_drop (fun y hy => hs y (List.mem_cons_of_mem _ hy)) l, Nat.succ_mul, Nat.add_comm, ← hx, List.drop_length_add_append]
theorem flat_take {sz : Nat} : ∀ {xs : List DVal} (_ : ∀ x ∈ xs, x.cells.length = sz) (l : Nat), (xs.take l).flatMap DVal.cells = (xs.flatMap DVal.cells).take (l * sz)
  | [], _, l => by simp
  | x :: r, hs, 0 => by simp
  | x :: r, hs, l + 1 => by
    have hx := hs x (by simp)
    simp only [List.take_succ_cons, List.flatMap_cons]
    rw [flat_take (fun y hy => hs y (List.mem_cons_of_mem _ hy)) l, Nat.succ_mul, Nat.add_comm, ← hx, List.take_length_add_append]
theorem Rd.part {bad : Nat → Prop} {w : World} {xs : List DVal} {a : Option Addr} {cap n l m : Nat} (h : Rd bad w (.list xs) (.slice a xs.length cap)) (hs : ∀ x ∈ xs, x.cells.length = n) (hlm : l + m ≤ xs.length) :
    Rd bad w (.list ((xs.drop l).take m)) (.slice (if cap = l then a else a.map (·.add (l * n))) m (cap - l)) := by
  generalize hG : Value.slice a xs.length cap = G at h
  cases h with
  | list hs' hc hw h1 h2 ha =>
    rename_i a' cap' sz b o f
    simp only [Value.slice.injEq] at hG
    obtain ⟨rfl, _, rfl⟩ := hG
    have hlen : ((xs.drop l).take m).length = m := by rw [List.length_take, List.length_drop]; omega
    have hss : ∀ x ∈ (xs.drop l).take m, x.cells.length = n := fun x hx => hs x (List.mem_of_mem_drop (List.mem_of_mem_take hx))
    have hfl : ((xs.drop l).take m).flatMap DVal.cells = ((xs.flatMap DVal.cells).drop (l * n)).take (m * n) := by
      rw [flat_take (fun x hx => hs x (List.mem_of_mem_drop hx)), flat_drop hs]
    have key : ∀ j c, (((xs.drop l).take m).flatMap DVal.cells)[j]? = some c → (xs.flatMap DVal.cells)[l * n + j]? = some c := fun j c hc => by
      rw [hfl, List.getElem?_take] at hc
      split at hc
      · rwa [List.getElem?_drop] at hc
      · cases hc
    have := Rd.list (bad := bad) (w := w) (xs := (xs.drop l).take m) (a := if cap = l then a else a.map (·.add (l * n))) (cap := cap - l) (sz := n) (b := b) (o := o + l * n) (f := fun j => f (l * n + j)) hss (by rw [hlen]; omega) (fun j hj => by
      have := hw _ (List.getElem?_eq_some_iff.1 (key j _ (List.getElem?_eq_getElem hj))).1
      rwa [← Nat.add_assoc] at this) (fun j hj => h1 _ (List.getElem?_eq_some_iff.1 (key j _ (List.getElem?_eq_getElem hj))).1) (fun j c hc => h2 _ c (key j c hc)) (fun hne => by
      have hm : m ≠ 0 := fun e => hne (by rw [e, List.take_zero])
      have hxs : xs ≠ [] := fun e => by rw [e] at hlm; simp at hlm; omega
      rw [if_neg (by omega), ha hxs]
      simp [Addr.addo])
    rw [hlen] at this
    exact this
theorem sliceL_ok {P : Program} {σ σ' : St} {o : Oper} {t : TypeId} {x : Operand} {lo hi : Option Operand} (ho : o.op = .slice t x lo hi none) (hd : okDst σ.n o.dst = true) (h : stSliceL P σ o.dst t (evO σ x) lo hi = some σ') : OpOk P o σ σ' := by
  intro E a w K hR
  unfold stSliceL at h
  obtain ⟨e, he, h⟩ := Option.bind_eq_some_iff.1 h
  obtain ⟨n, hn, h⟩ := Option.bind_eq_some_iff.1 h
  obtain ⟨⟨y, σ1⟩, hf, h⟩ := Option.bind_eq_some_iff.1 h
  obtain ⟨F, G⟩ := frzV_ok hR hf
  have hrd := G _ (hR.ev x)
  cases y with
  | list xs =>
    simp only at h
    obtain ⟨l, hl, h⟩ := Option.bind_eq_some_iff.1 h
    obtain ⟨hh, hhi, h⟩ := Option.bind_eq_some_iff.1 h
    cases hc : (decide (0 ≤ l) && decide (l ≤ hh) && decide (hh ≤ xs.length) && allLen n xs) with
    | false => rw [hc] at h; cases h
    | true =>
      rw [hc] at h
      simp only [cond_true, Option.some.injEq] at h
      subst h
      simp only [Bool.and_eq_true, decide_eq_true_eq] at hc
      obtain ⟨⟨⟨c1, c2⟩, c3⟩, c4⟩ := hc
      have hs := allLen_iff.1 c4
      obtain ⟨av, cap, hv, hcap⟩ : ∃ av cap, a.eval x = .slice av xs.length cap ∧ xs.length ≤ cap := by
        generalize hG : a.eval x = G at hrd
        cases hrd with
        | list _ hc => exact ⟨_, _, rfl, hc⟩
      rw [hv] at hrd
      have hb := run_sliceBounds (P := P) hR hl hhi c1 c2 c3 hcap
      refine ⟨.slice (if cap = l.toNat then av else av.map (·.add (l.toNat * n))) (hh.toNat - l.toNat) (cap - l.toNat), w, K, .inl ?_, (F.rel a hR).put_pure (by rw [F.n]; exact hd) (.d (hrd.part hs (by omega))) rfl⟩
      have hu := elemOf_eq he
      simp only [execOp, ho, Instr.sliceAt, Sem.run_bind, run_underlying hu, Result.andThen_ok, Instr.slice, hv, Option.map_none, hb, run_sizeOf hn, Sem.run_pure]
  | _ => simp at h
/-- A part of a text. -/
def optV (σ : St) : Option Operand → Option (Option Value)
  | none => some none
  | some x => (toV (evO σ x)).map some
noncomputable def sliceV (P : Program) (t : TypeId) (u : Value) (l h : Option Value) : Option Value := pr P (Instr.sliceAt t u l h none)
noncomputable def stSliceS (P : Program) (σ : St) (dst : Option Tmp) (t : TypeId) (x : AVal) (lo hi : Option Operand) : Option St :=
  (toV x).bind fun u => (optV σ lo).bind fun l => (optV σ hi).bind fun h => (sliceV P t u l h).map fun r => σ.put dst (ofConst r)
theorem optV_eq {E : Env} {σ : St} {a : Act} {w : World} {K : Kt} {x : Option Operand} {v : Option Value} (hR : Rel E σ a w K) (h : optV σ x = some v) : x.map a.eval = v := by
  cases x with
  | none => simp only [optV, Option.some.injEq] at h; subst h; rfl
  | some y =>
    simp only [optV] at h
    obtain ⟨u, hu, rfl⟩ := Option.map_eq_some_iff.1 h
    simp [toV_eq hu (hR.ev y)]
theorem sliceS_ok {P : Program} {σ σ' : St} {o : Oper} {t : TypeId} {x : Operand} {lo hi : Option Operand} (ho : o.op = .slice t x lo hi none) (hd : okDst σ.n o.dst = true) (h : stSliceS P σ o.dst t (evO σ x) lo hi = some σ') : OpOk P o σ σ' := by
  intro E a w K hR
  unfold stSliceS at h
  obtain ⟨u, hu, h⟩ := Option.bind_eq_some_iff.1 h
  obtain ⟨l, hl, h⟩ := Option.bind_eq_some_iff.1 h
  obtain ⟨hh, hhi, h⟩ := Option.bind_eq_some_iff.1 h
  obtain ⟨r, hr, rfl⟩ := Option.map_eq_some_iff.1 h
  refine ⟨r, w, K, .inl ?_, hR.put_pure hd (Rv.const r) (bel_const _ r)⟩
  simp only [execOp, ho, toV_eq hu (hR.ev x), optV_eq hR hl, optV_eq hR hhi, Option.map_none]
  simp [pr_run P _ r w hr]

/-! ### Texts and bytes -/
def isU8 (P : Program) (t : TypeId) : Bool := match P.underlying t with | some (.slice e) => (match P.underlying e with | some (.int .u8) => true | _ => false) | _ => false
def isStr (P : Program) (t : TypeId) : Bool := match P.underlying t with | some .string => true | _ => false
theorem isU8_eq {P : Program} {t : TypeId} (h : isU8 P t = true) : ∃ e, P.underlying t = some (.slice e) ∧ P.underlying e = some (.int .u8) := by
  unfold isU8 at h
  split at h
  · split at h
    · exact ⟨_, by assumption, by assumption⟩
    · cases h
  · cases h
theorem isStr_eq {P : Program} {t : TypeId} (h : isStr P t = true) : P.underlying t = some .string := by
  unfold isStr at h
  split at h
  · assumption
  · cases h
def stToBytes (P : Program) (σ : St) (d : Nat) (src dst : TypeId) (x : AVal) : Option St :=
  match x with
  | .d (.v (.string s)) => bif isStr P src && isU8 P dst then some (σ.alloc d (.arr 1 (s.data.toList.map byteD)) (.ref σ.lev d s.size)) else none
  | _ => none
theorem flat_bytes (l : List UInt8) : (l.map byteD).flatMap DVal.cells = l.map byteD := by
  induction l with
  | nil => rfl
  | cons c r ih => simp [List.flatMap_cons, ih, byteD, DVal.cells]
theorem toBytes_ok {P : Program} {σ σ' : St} {o : Oper} {src dst : TypeId} {x : Operand} {d : Nat} (ho : o.op = .convert src dst x) (hdd : o.dst = some d) (hd : okDst σ.n o.dst = true) (h : stToBytes P σ d src dst (evO σ x) = some σ') : OpOk P o σ σ' := by
  intro E a w K hR
  have hx := hR.ev x
  unfold stToBytes at h
  rw [hdd] at hd ⊢
  split at h
  · rename_i s he
    rw [he] at hx
    have hv : a.eval x = .string s := toV_eq (x := .d (.v (.string s))) rfl hx
    cases hc : (isStr P src && isU8 P dst) with
    | false => rw [hc] at h; cases h
    | true =>
      rw [hc] at h
      simp only [cond_true, Option.some.injEq] at h
      subst h
      simp only [Bool.and_eq_true] at hc
      obtain ⟨e, h1, h2⟩ := isU8_eq hc.2
      have hrun := run_bytes_of_string (P := P) w src dst e s (isStr_eq hc.1) h1 h2
      have hsl : (s.data.toList.map byteD).length = s.size := by simp
      have hge := grownCap_ge w s.size 0 e
      have hbl : (bytesRow s (grownCap w s.size 0 e)).size = grownCap w s.size 0 e := by
        simp only [bytesRow, Array.size_append, Array.size_map, Array.size_replicate]
        have : s.data.size = s.size := rfl
        omega
      obtain ⟨K', hK'⟩ := hR.arr (d := d) (sz := 1) (xs := s.data.toList.map byteD) (ad := some ⟨w.heap.size, 0, none⟩) (cap := grownCap w s.size 0 e)
        (w' := w.drew.alloc (.cells (bytesRow s (grownCap w s.size 0 e)) e ((bytesRow s (grownCap w s.size 0 e)).size, (bytesRow s (grownCap w s.size 0 e)).size + 1))) hd (Ch.none_trans (Ch.drew w) (Ch.alloc _ _))
        (fun y hy => by obtain ⟨c, _, rfl⟩ := List.mem_map.1 hy; rfl) (by rw [hsl]; exact hge)
        ⟨rfl, (bytesRow s (grownCap w s.size 0 e)).toList, e, ((bytesRow s (grownCap w s.size 0 e)).size, (bytesRow s (grownCap w s.size 0 e)).size + 1), by rw [← heap_alloc_new w.drew]; rfl, by simp only [Array.length_toList]; omega, by simp only [Array.length_toList]; omega, fun j c hcj => by
          rw [flat_bytes, List.getElem?_map] at hcj
          obtain ⟨q, hq, rfl⟩ := Option.map_eq_some_iff.1 hcj
          refine ⟨.int .u8 q.toNat, ?_, rfl, .v rfl⟩
          have hlt := (List.getElem?_eq_some_iff.1 hq).1
          simp only [bytesRow, Array.toList_append, Array.toList_map, Nat.zero_add]
          rw [List.getElem?_append_left (by simpa using hlt), List.getElem?_map, hq]
          rfl⟩ (by simp)
      rw [hsl] at hK'
      exact ⟨_, _, K', .inl (by simp only [execOp, ho, hv]; simp [hrun]), hK'⟩
  · cases h
def bytesOf : List DVal → Option (List UInt8)
  | [] => some []
  | .v (.int .u8 n) :: r => (bytesOf r).bind fun bs => bif decide (0 ≤ n) && decide (n < 256) then some (UInt8.ofNat n.toNat :: bs) else none
  | _ :: _ => none
theorem bytesOf_eq : ∀ {ys : List DVal} {bs : List UInt8}, bytesOf ys = some bs → ys = bs.map byteD
  | [], bs, h => by simp only [bytesOf, Option.some.injEq] at h; subst h; rfl
  | y :: r, bs, h => by
    unfold bytesOf at h
    split at h
    · rename_i e; cases e
    · rename_i n r' e
      simp only [List.cons.injEq] at e
      obtain ⟨rfl, rfl⟩ := e
      obtain ⟨bs', h1, h2⟩ := Option.bind_eq_some_iff.1 h
      cases hc : (decide (0 ≤ n) && decide (n < 256)) with
      | false => rw [hc] at h2; cases h2
      | true =>
        rw [hc] at h2
        simp only [cond_true, Option.some.injEq] at h2
        subst h2
        simp only [Bool.and_eq_true, decide_eq_true_eq] at hc
        rw [bytesOf_eq h1]
        simp only [List.map_cons, byteD, List.cons.injEq, and_true, DVal.v.injEq, Value.int.injEq, true_and]
        rw [UInt8.toNat_ofNat_of_lt' (by simp; omega)]
        omega
    · cases h
theorem bytesOf_map (bs : List UInt8) : bytesOf (bs.map byteD) = some bs := by
  induction bs with
  | nil => rfl
  | cons b r ih =>
    have := b.toNat_lt
    simp only [List.map_cons, byteD, bytesOf]
    rw [ih]
    have h256 : (b.toNat : Int) < 256 := by simp at this; omega
    simp [h256]
def stToStr (P : Program) (σ : St) (dst : Option Tmp) (src ty : TypeId) (x : AVal) : Option St :=
  (srcL σ x).bind fun ys => (bytesOf ys).bind fun bs => bif isU8 P src && isStr P ty && (match x with | .d (.v _) => false | _ => true) then some (σ.put dst (.d (.v (.string ⟨bs.toArray⟩)))) else none
theorem srcL_len {σ : St} {x : AVal} {ys : List DVal} (h : srcL σ x = some ys) (hn : ∀ s, x ≠ .d (.v s)) : lenA x = some ys.length := by
  unfold srcL at h
  split at h
  · simp only [Option.some.injEq] at h; subst h; rfl
  · exact (hn _ rfl).elim
  · simp only [Option.some.injEq] at h; subst h; rfl
  · rename_i l t n
    split at h
    · rename_i sz xs e
      cases hc : Nat.beq n xs.length with
      | false => rw [hc] at h; cases h
      | true => rw [hc] at h; simp only [cond_true, Option.some.injEq] at h; subst h; rw [beq_eq hc]; rfl
    · rename_i xs e
      cases hc : Nat.beq n xs.length with
      | false => rw [hc] at h; cases h
      | true => rw [hc] at h; simp only [cond_true, Option.some.injEq] at h; subst h; rw [beq_eq hc]; rfl
    · cases h
  · cases h
theorem toStr_ok {P : Program} {σ σ' : St} {o : Oper} {src ty : TypeId} {x : Operand} (ho : o.op = .convert src ty x) (hd : okDst σ.n o.dst = true) (h : stToStr P σ o.dst src ty (evO σ x) = some σ') : OpOk P o σ σ' := by
  intro E a w K hR
  unfold stToStr at h
  obtain ⟨ys, hys, h⟩ := Option.bind_eq_some_iff.1 h
  obtain ⟨bs, hbs, h⟩ := Option.bind_eq_some_iff.1 h
  have hx := hR.ev x
  have hys0 := bytesOf_eq hbs
  clear hbs
  cases hc : (isU8 P src && isStr P ty && (match evO σ x with | .d (.v _) => false | _ => true)) with
  | false => rw [hc] at h; cases h
  | true =>
    rw [hc] at h
    simp only [cond_true, Option.some.injEq] at h
    subst h
    subst hys0
    simp only [Bool.and_eq_true] at hc
    obtain ⟨⟨c1, c2⟩, c3⟩ := hc
    have hne : ∀ s, evO σ x ≠ .d (.v s) := fun s e => by rw [e] at c3; cases c3
    obtain ⟨av, cap, hv⟩ := lenA_eq (srcL_len hys hne) hx
    obtain ⟨vs, hS⟩ := src_ok (P := P) (n := 1) hR hys hx (fun y hy => by obtain ⟨c, _, rfl⟩ := List.mem_map.1 hy; rfl)
    have hvs : vs = bs.map fun b => .int .u8 (b.toNat : Int) := by
      have hrel := hS.rel
      rw [flat_bytes] at hrel
      apply List.ext_getElem?
      intro j
      rcases Nat.lt_or_ge j vs.length with q | q
      · have hl := hrel.1
        rw [List.length_map] at hl
        have hb : j < bs.length := by omega
        have := hrel.2 j _ _ (List.getElem?_eq_getElem (by simpa using hb)) (List.getElem?_eq_getElem q)
        rw [List.getElem_map] at this
        rw [List.getElem?_eq_getElem q, List.getElem?_map, List.getElem?_eq_getElem hb]
        generalize vs[j] = u at this
        cases this
        rfl
      · have hl := hrel.1
        rw [List.length_map] at hl
        rw [List.getElem?_eq_none q, List.getElem?_eq_none (by simp; omega)]
    obtain ⟨e, h1, h2⟩ := isU8_eq c1
    have hrun : (convert src ty (a.eval x)).run P w = .ok (.string ⟨bs.toArray⟩) w := by
      rw [hv, run_convert_bytes_string w src ty e _ _ _ h1 h2 (isStr_eq c2)]
      have hr := hS.run w rfl
      rw [hv] at hr
      cases av with
      | none =>
        simp only [Builtin.firstCells, Sem.run_pure, Result.ok.injEq, and_true] at hr
        have : vs = [] := by
          have := congrArg Array.toList hr
          simpa using this.symm
        rw [this] at hvs
        have hb0 : bs = [] := by
          cases bs with
          | nil => rfl
          | cons _ _ => simp at hvs
        subst hb0
        rfl
      | some ad =>
        simp only [Builtin.firstCells, List.length_map, Nat.mul_one] at hr
        rw [hvs] at hr
        have hl : (loadCells ad bs.length).run P w = .ok ((bs.map (fun b => (b.toNat : Int))).map (Value.int .u8)).toArray w := by
          rw [hr]
          simp [List.map_map, Function.comp_def]
        rw [List.length_map, run_bytesToString w ad bs.length cap _ hl, foldl_push_byteCells]
        have he0 : ByteArray.empty.data = #[] := rfl
        rw [he0]
        simp
    exact ⟨_, w, K, .inl (by simp only [execOp, ho]; simp [hrun]), hR.put_pure hd (.d (.v rfl)) rfl⟩
end Go.Fw
/- One operation: which, and that it is sound. -/
set_option autoImplicit false
namespace Go.Fw
def binS (op : BinOp) (t : TypeId) (x y : Operand) (u v : Value) : Sem Value := do
  eqGuard op t x y u v
  binOp op t u v
noncomputable def binV (P : Program) (op : BinOp) (t : TypeId) (x y : Operand) (u v : Value) : Option Value := pr P (binS op t x y u v)
noncomputable def unV (P : Program) (op : UnOp) (u : Value) : Option Value := pr P (Op.unary op u)
noncomputable def convV (P : Program) (s t : TypeId) (u : Value) : Option Value := pr P (convert s t u)
noncomputable def indexV (P : Program) (t : TypeId) (u v : Value) : Option Value := pr P (Instr.index t u v)
noncomputable def stConv (P : Program) (σ : St) (dst : Option Tmp) (s t : TypeId) (x : Operand) : Option St :=
  match toV (evO σ x) with
  | some (.string _) => bif isStr P s && isU8 P t then (match dst with | some d => stToBytes P σ d s t (evO σ x) | none => none) else scal1 σ dst (evO σ x) (convV P s t)
  | some (.int _ _) => scal1 σ dst (evO σ x) (convV P s t)
  | some (.bool _) => scal1 σ dst (evO σ x) (convV P s t)
  | some (.float _ _) => scal1 σ dst (evO σ x) (convV P s t)
  | _ => stToStr P σ dst s t (evO σ x)
noncomputable def stCallB (P : Program) (σ : St) (dst : Option Tmp) (ty : TypeId) (b : Builtin) (xs : List Operand) (ts : List TypeId) : Option St :=
  match b, xs, ts with
  | .len, [x], [t] => bif isStr P t then stBuiltin P σ dst .len #[t] ty #[x] else stLen P σ dst t (evO σ x)
  | .append, [x, y], [t, u] => (match dst with | some d => stAppend P σ d t u (evO σ x) (evO σ y) | none => none)
  | .max, xs, ts => stBuiltin P σ dst .max ts.toArray ty xs.toArray
  | .min, xs, ts => stBuiltin P σ dst .min ts.toArray ty xs.toArray
  | _, _, _ => none
def isNilS : Operand → Bool
  | .const (.slice none 0 0) => true
  | _ => false
def onDst (dst : Option Tmp) (f : Nat → Option St) : Option St := match dst with | some d => f d | none => none
noncomputable def stepD (P : Program) (σ : St) (dst : Option Tmp) (ty : TypeId) : Op → Option St
  | .assign x => bif isNilS x then onDst dst (fun d => stNilSlice P σ d ty) else some (σ.put dst (evO σ x))
  | .move x => some (σ.put dst (evO σ x))
  | .pick c x y => stPick σ dst c x y
  | .alloc t => onDst dst (fun d => stAlloc P σ d t)
  | .box _ x => onDst dst (fun d => stBox σ d (evO σ x))
  | .build t ps => stBuild P σ dst t ps
  | .buildSlice t n ps => onDst dst (fun d => stBuildSlice P σ d t n ps)
  | .load t x => stLoad P σ dst t (evO σ x)
  | .store t x y => stStore P σ dst t (evO σ x) (evO σ y)
  | .nilCheck x => stNil σ dst x
  | .binOp op t x y _ => scal2 σ dst (evO σ x) (evO σ y) (binV P op t x y)
  | .unOp op _ x => scal1 σ dst (evO σ x) (unV P op)
  | .convert s t x => stConv P σ dst s t x
  | .makeFunc (.func f) first caps => bif first.toList.isEmpty then some (stFunc σ dst f caps) else none
  | .makeSlice t l c => onDst dst (fun d => stMakeSlice P σ d t (evO σ l) (evO σ c))
  | .slice t x lo hi none => bif isStr P t then stSliceS P σ dst t (evO σ x) lo hi else stSliceL P σ dst t (evO σ x) lo hi
  | .fieldAddr s x f => stFieldA P σ dst s f (evO σ x)
  | .field s x f => stField P σ dst s f (evO σ x)
  | .indexAddr t x i => stIndexA P σ dst t (evO σ x) (evO σ i)
  | .index t x i => scal2 σ dst (evO σ x) (evO σ i) (indexV P t)
  | .extract x i => stExtract σ dst x i
  | .call { callee := .builtin b, args, argTypes } => stCallB P σ dst ty b args.toList argTypes.toList
  | _ => none
noncomputable def stepOp (P : Program) (σ : St) (o : Oper) : Option St := bif okDst σ.n o.dst then stepD P σ o.dst o.type o.op else none
theorem onDst_some {dst : Option Tmp} {f : Nat → Option St} {σ' : St} (h : onDst dst f = some σ') : ∃ d, dst = some d ∧ f d = some σ' := by
  cases dst with
  | none => cases h
  | some d => exact ⟨d, rfl, h⟩
theorem arr1 {α : Type} {xs : Array α} {x : α} (h : xs.toList = [x]) : xs = #[x] := by apply Array.ext'; simpa using h
theorem arr2 {α : Type} {xs : Array α} {x y : α} (h : xs.toList = [x, y]) : xs = #[x, y] := by apply Array.ext'; simpa using h
theorem conv_ok {P : Program} {σ σ' : St} {o : Oper} {s t : TypeId} {x : Operand} (ho : o.op = .convert s t x) (hd : okDst σ.n o.dst = true) (h : stConv P σ o.dst s t x = some σ') : OpOk P o σ σ' := by
  have sc : scal1 σ o.dst (evO σ x) (convV P s t) = some σ' → OpOk P o σ σ' := fun h => scal1_ok (P := P) hd h (fun ρ => by simp only [execOp, ho])
  unfold stConv at h
  split at h
  · cases hc : (isStr P s && isU8 P t) with
    | false => rw [hc] at h; exact sc h
    | true =>
      rw [hc] at h
      simp only [cond_true] at h
      split at h
      · rename_i d hdd; exact toBytes_ok ho hdd hd h
      · cases h
  · exact sc h
  · exact sc h
  · exact sc h
  · exact toStr_ok ho hd h
theorem callB_ok {P : Program} {σ σ' : St} {o : Oper} {b : Builtin} {xs : Array Operand} {ts : Array TypeId} (ho : o.op = .call { callee := .builtin b, args := xs, argTypes := ts }) (hd : okDst σ.n o.dst = true) (h : stCallB P σ o.dst o.type b xs.toList ts.toList = some σ') : OpOk P o σ σ' := by
  unfold stCallB at h
  split at h
  · rename_i x t e1 e2
    obtain rfl := arr1 e1
    obtain rfl := arr1 e2
    cases hc : isStr P t with
    | false => rw [hc] at h; exact len_ok ho hd h
    | true => rw [hc] at h; exact builtin_ok ho hd h
  · rename_i x y t u e1 e2
    obtain rfl := arr2 e1
    obtain rfl := arr2 e2
    split at h
    · rename_i d hdd; exact append_ok ho hdd hd h
    · cases h
  · have e1 : xs.toList.toArray = xs := by simp
    have e2 : ts.toList.toArray = ts := by simp
    rw [e1, e2] at h
    exact builtin_ok ho hd h
  · have e1 : xs.toList.toArray = xs := by simp
    have e2 : ts.toList.toArray = ts := by simp
    rw [e1, e2] at h
    exact builtin_ok ho hd h
  · cases h
theorem step_ok {P : Program} {σ σ' : St} {o : Oper} (h : stepOp P σ o = some σ') : OpOk P o σ σ' := by
  unfold stepOp at h
  cases hd : okDst σ.n o.dst with
  | false => rw [hd] at h; cases h
  | true =>
    rw [hd] at h
    simp only [cond_true] at h
    unfold stepD at h
    split at h
    · rename_i x ho
      cases hn : isNilS x with
      | true =>
        rw [hn] at h
        simp only [cond_true] at h
        have hx : x = .const (.slice none 0 0) := by
          unfold isNilS at hn
          split at hn
          · rfl
          · cases hn
        subst hx
        obtain ⟨d, hdd, h⟩ := onDst_some h
        exact nilSlice_ok ho hdd hd h
      | false =>
        rw [hn] at h
        simp only [cond_false, Option.some.injEq] at h
        subst h
        exact move_ok hd (fun ρ => by simp only [execOp, ho])
    · rename_i x ho
      simp only [Option.some.injEq] at h
      subst h
      exact move_ok hd (fun ρ => by simp only [execOp, ho])
    · rename_i c x y ho; exact pick_ok ho hd h
    · rename_i t ho; obtain ⟨d, hdd, h⟩ := onDst_some h; exact alloc_ok ho hdd hd h
    · rename_i t x ho; obtain ⟨d, hdd, h⟩ := onDst_some h; exact box_ok ho hdd hd h
    · rename_i t ps ho; exact build_ok ho hd h
    · rename_i t n ps ho; obtain ⟨d, hdd, h⟩ := onDst_some h; exact buildSlice_ok ho hdd hd h
    · rename_i t x ho; exact load_ok ho hd h
    · rename_i t x y ho; exact store_ok ho hd h
    · rename_i x ho; exact nil_ok ho hd h
    · rename_i op t x y _ ho; exact scal2_ok (P := P) hd h (fun ρ => by simp only [execOp, ho]; rfl)
    · rename_i op _ x ho; exact scal1_ok (P := P) hd h (fun ρ => by simp only [execOp, ho])
    · rename_i s t x ho; exact conv_ok ho hd h
    · rename_i f first caps ho
      cases hf : first.toList.isEmpty with
      | false => rw [hf] at h; cases h
      | true =>
        rw [hf] at h
        simp only [cond_true, Option.some.injEq] at h
        subst h
        have : first = #[] := by apply Array.ext'; simpa using hf
        subst this
        exact func_ok ho hd
    · rename_i t l c ho; obtain ⟨d, hdd, h⟩ := onDst_some h; exact makeSlice_ok ho hdd hd h
    · rename_i t x lo hi ho
      cases hs : isStr P t with
      | true => rw [hs] at h; exact sliceS_ok ho hd h
      | false => rw [hs] at h; exact sliceL_ok ho hd h
    · rename_i s x f ho; exact fieldA_ok ho hd h
    · rename_i s x f ho; exact field_ok ho hd h
    · rename_i t x i ho; exact indexA_ok ho hd h
    · rename_i t x i ho; exact scal2_ok (P := P) hd h (fun ρ => by simp only [execOp, ho])
    · rename_i x i ho; exact extract_ok ho hd h
    · rename_i b args argTypes ho; exact callB_ok ho hd h
    · cases h
end Go.Fw
/- Calls, regions. -/
set_option autoImplicit false
namespace Go.Fw
def hasBody (P : Program) (f : FuncId) : Bool :=
  match P.funcs[f]? with
  | some fn => fn.body.isSome && !(fn.name == "runtime.NumGoroutine")
  | none => false
def ownsIn (K : Kt) (H : Hp) (b : Nat) : Prop := ∃ l t, (H l t).own K l t b
/-- What a call does, told abstractly: the arguments are values of levels below lev; objects of these levels may change. -/
def ACalls (P : Program) (f : FuncId) (args : List AVal) (lev : Nat) (H : Hp) (Q : AVal → Hp → Prop) : Prop :=
  hasBody P f = true ∧ ∀ (S0 : Nat → Prop) (w : World) (K : Kt) (vs : List Value), P2 (Rv (badOf S0 K H) K w) args vs → AVal.belL lev args = true → (∀ l t, lev ≤ l → H l t = .dead) →
    HRel ⟨S0, ownsIn K H, badOf S0 K H, K, w⟩ lev H w K →
    Calls P f ⟨vs⟩ w fun e w' => ∃ v r H' K', e = .returned v ∧ Q r H' ∧ HRel ⟨S0, ownsIn K H, badOf S0 K H, K, w⟩ lev H' w' K' ∧ (∀ l t, lev ≤ l → H' l t = .dead) ∧ Rv (badOf S0 K' H') K' w' r v ∧ r.bel lev = true
theorem ACalls.mono {P : Program} {f : FuncId} {args : List AVal} {lev : Nat} {H : Hp} {Q Q' : AVal → Hp → Prop} (h : ACalls P f args lev H Q) (hq : ∀ r H', Q r H' → Q' r H') : ACalls P f args lev H Q' :=
  ⟨h.1, fun S0 w K vs h1 h2 h3 h4 => (h.2 S0 w K vs h1 h2 h3 h4).mono fun e w' ⟨v, r, H', K', a1, a2, a3⟩ => ⟨v, r, H', K', a1, hq _ _ a2, a3⟩⟩
/-- A call of data: nothing that was there changes. -/
def PCalls (P : Program) (f : FuncId) (args : List DVal) (r : AVal) : Prop := ACalls P f (args.map .d) 0 (fun _ _ => .dead) (fun r' _ => r' = r)

/-- A call of data that makes an array for the caller. -/
def FCalls (P : Program) (f : FuncId) (ds : List DVal) (sz : Nat) (xs : List DVal) : Prop :=
  hasBody P f = true ∧ ∀ (S0 : Nat → Prop) (w : World) (vs : List Value), (∀ b, S0 b → b < w.heap.size) → P2 (Rd S0 w) ds vs →
    Calls P f ⟨vs⟩ w fun e w' => ∃ ad cap, e = .returned (.slice ad xs.length cap) ∧ Ch (fun _ => False) w w' ∧ (∀ x ∈ xs, x.cells.length = sz) ∧ xs.length ≤ cap ∧
      ArrAt (fun b => S0 b ∨ ∃ x, ad = some x ∧ b = x.block) w' w' sz xs cap ad ∧ ∀ x, ad = some x → w.heap.size ≤ x.block

mutual
theorem Rv.bel0 {bad : Nat → Prop} {K K' : Kt} {w : World} {m : Nat} (hK : ∀ l t n z, l < m → K l t n = some z → K' l t n = some z) : ∀ {x : AVal} {v : Value}, x.bel m = true → Rv bad K w x v → Rv bad K' w x v
  | .any, _, _, _ => .any
  | .nils, _, _, h => by cases h; exact .nils
  | .d _, _, _, h => by cases h with | d h => exact .d h
  | .cptr _, _, _, h => by cases h with | cptr h1 h2 h3 => exact .cptr h1 h2 h3
  | .ptr l t off, _, hb, h => by
    simp only [AVal.bel, Nat.blt_eq] at hb
    cases h with | ptr h => exact .ptr (hK _ _ _ _ hb h)
  | .ref l t n, _, hb, h => by
    simp only [AVal.bel, Nat.blt_eq] at hb
    cases h with | ref h => exact .ref (hK _ _ _ _ hb h)
  | .elt l t n i j, _, hb, h => by
    simp only [AVal.bel, Nat.blt_eq] at hb
    cases h with | elt h => exact .elt (hK _ _ _ _ hb h)
  | .tup xs, _, hb, h => by
    simp only [AVal.bel] at hb
    cases h with | tup hl h => exact .tup hl (fun j c x hc hx => Rv.bel0L hK xs hb j c x hc (h j c x hc hx))
  | .clo f xs, _, hb, h => by
    simp only [AVal.bel] at hb
    cases h with | clo hl h => exact .clo hl (fun j c x hc hx => Rv.bel0L hK xs hb j c x hc (h j c x hc hx))
theorem Rv.bel0L {bad : Nat → Prop} {K K' : Kt} {w : World} {m : Nat} (hK : ∀ l t n z, l < m → K l t n = some z → K' l t n = some z) : ∀ (xs : List AVal), AVal.belL m xs = true → ∀ (j : Nat) (c : AVal) (v : Value), xs[j]? = some c → Rv bad K w c v → Rv bad K' w c v
  | [], _, j, c, v, hc, _ => by simp at hc
  | x :: r, hb, 0, c, v, hc, h => by
    simp only [AVal.belL, Bool.and_eq_true] at hb
    simp only [List.getElem?_cons_zero, Option.some.injEq] at hc
    subst hc
    exact Rv.bel0 hK hb.1 h
  | x :: r, hb, j + 1, c, v, hc, h => by
    simp only [AVal.belL, Bool.and_eq_true] at hb
    simp only [List.getElem?_cons_succ] at hc
    exact Rv.bel0L hK r hb.2 j c v hc h
end
def scalarL : List DVal → Bool
  | [] => true
  | .v _ :: r => scalarL r
  | _ :: _ => false
mutual
def scalarA : AVal → Bool
  | .d (.v _) => true
  | .d (.agg cs) => scalarL cs
  | .tup xs => scalarAL xs
  | .any => true
  | .nils => true
  | _ => false
def scalarAL : List AVal → Bool
  | [] => true
  | x :: r => scalarA x && scalarAL r
end
theorem scalarL_mem : ∀ {cs : List DVal}, scalarL cs = true → ∀ c ∈ cs, ∃ x, c = .v x
  | [], _, c, h => by simp at h
  | .v x :: r, hs, c, h => by
    rcases List.mem_cons.1 h with h | h
    · exact ⟨x, h⟩
    · exact scalarL_mem (by simpa [scalarL] using hs) c h
  | .list _ :: _, hs, _, _ => by simp [scalarL] at hs
  | .agg _ :: _, hs, _, _ => by simp [scalarL] at hs
mutual
theorem Rv.scalar {bad bad' : Nat → Prop} {K K' : Kt} {w w' : World} : ∀ {x : AVal} {v : Value}, scalarA x = true → Rv bad K w x v → Rv bad' K' w' x v
  | .any, _, _, _ => .any
  | .nils, _, _, h => by cases h; exact .nils
  | .d (.v _), _, _, h => by cases h with | d h => cases h with | v h => exact .d (.v h)
  | .d (.agg cs), _, hs, h => by
    simp only [scalarA] at hs
    cases h with
    | d h =>
      cases h with
      | agg hl h1 h2 =>
        refine .d (.agg hl h1 (fun j c x hc hx => ?_))
        obtain ⟨y, rfl⟩ := scalarL_mem hs c (List.mem_of_getElem? hc)
        have := h2 j _ x hc hx
        cases this with
        | v h => exact .v h
  | .tup xs, _, hs, h => by
    simp only [scalarA] at hs
    cases h with | tup hl h => exact .tup hl (fun j c x hc hx => Rv.scalarL hs j c x hc (h j c x hc hx))
  | .d (.list _), _, hs, _ => by simp [scalarA] at hs
  | .cptr _, _, hs, _ => by simp [scalarA] at hs
  | .ptr _ _ _, _, hs, _ => by simp [scalarA] at hs
  | .ref _ _ _, _, hs, _ => by simp [scalarA] at hs
  | .elt _ _ _ _ _, _, hs, _ => by simp [scalarA] at hs
  | .clo _ _, _, hs, _ => by simp [scalarA] at hs
theorem Rv.scalarL {bad bad' : Nat → Prop} {K K' : Kt} {w w' : World} : ∀ {xs : List AVal}, scalarAL xs = true → ∀ (j : Nat) (c : AVal) (v : Value), xs[j]? = some c → Rv bad K w c v → Rv bad' K' w' c v
  | [], _, j, c, v, hc, _ => by simp at hc
  | x :: r, hb, 0, c, v, hc, h => by
    simp only [scalarAL, Bool.and_eq_true] at hb
    simp only [List.getElem?_cons_zero, Option.some.injEq] at hc
    subst hc
    exact Rv.scalar hb.1 h
  | x :: r, hb, j + 1, c, v, hc, h => by
    simp only [scalarAL, Bool.and_eq_true] at hb
    simp only [List.getElem?_cons_succ] at hc
    exact Rv.scalarL hb.2 j c v hc h
end

/-! ### Operations of a region -/
def gdB : AVal → Option (Option Bool)
  | .d (.v (.bool b)) => some (some b)
  | .tup [] => some none
  | _ => none
def gdW : Option Bool → Bool → Bool
  | some b, w => b == w
  | none, _ => false
def yv : Value → Option Bool
  | .bool b => some b
  | _ => none
theorem gdB_eq {bad : Nat → Prop} {K : Kt} {w : World} {x : AVal} {q : Option Bool} {v : Value} (h : gdB x = some q) (hr : Rv bad K w x v) : yv v = q := by
  unfold gdB at h
  split at h
  · rename_i b
    simp only [Option.some.injEq] at h
    subst h
    obtain rfl := boolOf_eq (b := b) rfl hr
    rfl
  · simp only [Option.some.injEq] at h
    subst h
    cases hr with | tup hl _ => rfl
  · cases h
def gdOf (ops : Array Oper) (σ : St) (o : Oper) : Option Bool :=
  match o.guard with
  | none => some true
  | some (j, want) => (((ops[j]?).bind (·.dst)).bind fun d => gdB (lk σ.T d)).map (gdW · want)
theorem gdOf_eq {ops : Array Oper} {E : Env} {σ : St} {a : Act} {w : World} {K : Kt} {o : Oper} {b : Bool} (hR : Rel E σ a w K) (h : gdOf ops σ o = some b) : Region.wanted o (yielded ops a.tmps) = b := by
  unfold gdOf at h
  unfold Region.wanted
  cases hg : o.guard with
  | none => rw [hg] at h; simp only [Option.some.injEq] at h; rw [← h]
  | some p =>
    obtain ⟨j, want⟩ := p
    rw [hg] at h
    simp only at h ⊢
    obtain ⟨q, hq, rfl⟩ := Option.map_eq_some_iff.1 h
    obtain ⟨d, hd, hq⟩ := Option.bind_eq_some_iff.1 hq
    have e := gdB_eq hq (hR.tm d)
    have hy : yielded ops a.tmps j = q := by
      unfold yielded
      rw [hd]
      simp only [Option.bind_some]
      rw [← e, Array.getD_eq_getD_getElem?]
      cases ht : a.tmps[d]? with
      | none => rfl
      | some u => cases u <;> rfl
    rw [hy]
    cases q with
    | none => rfl
    | some q => cases q <;> cases want <;> rfl
def evL (σ : St) : List Operand → List AVal
  | [] => []
  | x :: r => evO σ x :: evL σ r
theorem evL_eq (σ : St) : ∀ xs, evL σ xs = xs.map (evO σ)
  | [] => rfl
  | x :: r => by rw [evL, evL_eq σ r]; rfl
def callD (σ : St) : Op → Option (FuncId × List AVal)
  | .call { callee := .value f, args, .. } => (match evO σ f with | .clo g caps => some (g, evL σ args.toList ++ caps) | _ => none)
  | _ => none
def callOf (σ : St) (o : Oper) : Option (FuncId × List AVal) := callD σ o.op
/-- Some of the values turned into data. -/
def frzM : List Bool → St → List AVal → Option (List AVal × St)
  | _, σ, [] => some ([], σ)
  | [], σ, xs => some (xs, σ)
  | false :: m, σ, x :: r => (frzM m σ r).map fun q => (x :: q.1, q.2)
  | true :: m, σ, x :: r => (frzV σ x).bind fun p => (frzM m p.2 r).map fun q => (.d p.1 :: q.1, q.2)
theorem frzM_ok {E : Env} {w : World} {K : Kt} {a : Act} : ∀ {m : List Bool} {xs : List AVal} {σ σ' : St} {ys : List AVal}, Rel E σ a w K → frzM m σ xs = some (ys, σ') →
    Frz E w K σ σ' ∧ ∀ vs, P2 (Rv (badOf E.S0 K σ.H) K w) xs vs → ∀ q, AVal.belL q xs = true → P2 (Rv (badOf E.S0 K σ'.H) K w) ys vs ∧ AVal.belL q ys = true
  | m, [], σ, σ', ys, h, hf => by
    have e : frzM m σ [] = some ([], σ) := by cases m with | nil => rfl | cons b r => cases b <;> rfl
    rw [e] at hf
    simp only [Option.some.injEq, Prod.mk.injEq] at hf
    obtain ⟨rfl, rfl⟩ := hf
    exact ⟨Frz.refl _, fun vs hp q hq => ⟨hp, hq⟩⟩
  | [], x :: r, σ, σ', ys, h, hf => by
    simp only [frzM, Option.some.injEq, Prod.mk.injEq] at hf
    obtain ⟨rfl, rfl⟩ := hf
    exact ⟨Frz.refl _, fun vs hp q hq => ⟨hp, hq⟩⟩
  | false :: m, x :: r, σ, σ', ys, h, hf => by
    simp only [frzM] at hf
    obtain ⟨⟨ys1, σ2⟩, h2, he⟩ := Option.map_eq_some_iff.1 hf
    simp only [Prod.mk.injEq] at he
    obtain ⟨rfl, rfl⟩ := he
    obtain ⟨F, G⟩ := frzM_ok h h2
    refine ⟨F, fun vs hp q hq => ?_⟩
    cases vs with
    | nil => have := hp.1; simp at this
    | cons v vs =>
      simp only [AVal.belL, Bool.and_eq_true] at hq ⊢
      obtain ⟨g1, g2⟩ := G vs ⟨by simpa using hp.1, fun j c u hc hu => hp.2 (j + 1) c u (by simpa using hc) (by simpa using hu)⟩ q hq.2
      refine ⟨⟨by simp [g1.1], fun j c u hc hu => ?_⟩, hq.1, g2⟩
      cases j with
      | zero =>
        have := (hp.2 0 x v rfl rfl).mono F.keeps (fun _ _ _ _ hz => hz)
        simp only [List.getElem?_cons_zero, Option.some.injEq] at hc hu
        subst hc hu
        exact this
      | succ j => exact g1.2 j c u (by simpa using hc) (by simpa using hu)
  | true :: m, x :: r, σ, σ', ys, h, hf => by
    simp only [frzM] at hf
    obtain ⟨⟨y, σ1⟩, h1, hf⟩ := Option.bind_eq_some_iff.1 hf
    obtain ⟨⟨ys1, σ2⟩, h2, he⟩ := Option.map_eq_some_iff.1 hf
    simp only [Prod.mk.injEq] at he
    obtain ⟨rfl, rfl⟩ := he
    obtain ⟨F1, G1⟩ := frzV_ok h h1
    obtain ⟨F, G⟩ := frzM_ok (F1.rel a h) h2
    refine ⟨F1.trans F, fun vs hp q hq => ?_⟩
    cases vs with
    | nil => have := hp.1; simp at this
    | cons v vs =>
      simp only [AVal.belL, Bool.and_eq_true] at hq ⊢
      obtain ⟨g1, g2⟩ := G vs ⟨by simpa using hp.1, fun j c u hc hu => (hp.2 (j + 1) c u (by simpa using hc) (by simpa using hu)).mono F1.keeps (fun _ _ _ _ hz => hz)⟩ q hq.2
      refine ⟨⟨by simp [g1.1], fun j c u hc hu => ?_⟩, rfl, g2⟩
      cases j with
      | zero =>
        have := (G1 v (hp.2 0 x v rfl rfl)).mono F.keeps
        simp only [List.getElem?_cons_zero, Option.some.injEq] at hc hu
        subst hc hu
        exact .d this
      | succ j => exact g1.2 j c u (by simpa using hc) (by simpa using hu)
/-- A slice compared with nil: whether it is told is left open where it is empty. -/
def isSlT (P : Program) (t : TypeId) : Bool := match P.underlying t with | some (.slice _) => true | _ => false
def nilB : AVal → Bool → Prop
  | .nils, b => b = true
  | .d (.list xs), b => b = true → xs = []
  | _, _ => False
def canNil : AVal → Bool
  | .nils => true
  | .d (.list _) => true
  | _ => false
def nilTag : Op → Option (Bool × TypeId × Operand)
  | .binOp .eql t x (.const (.slice none 0 0)) _ => some (true, t, x)
  | .binOp .neq t x (.const (.slice none 0 0)) _ => some (false, t, x)
  | _ => none
def nilGo (P : Program) (σ : St) (dst : Option Tmp) (N : St → Prop) : Option (Bool × TypeId × Operand) → Prop
  | some (k, t, x) => isSlT P t = true ∧ okDst σ.n dst = true ∧ canNil (evO σ x) = true ∧ ∀ b, nilB (evO σ x) b → N (σ.put dst (.d (.v (.bool (bif k then b else !b)))))
  | none => False
theorem run_eqIn {P : Program} (w : World) (d : Nat) (t e : TypeId) (a : Option Addr) (l c : Nat) (h : P.underlying t = some (.slice e)) : (Op.equalIn (d + 1) t (.slice a l c) (.slice none 0 0)).run P w = .ok a.isNone w := by
  cases a <;> simp [Op.equalIn, run_underlying h]
theorem run_eqN {P : Program} (w : World) (t e : TypeId) (a : Option Addr) (l c : Nat) (h : P.underlying t = some (.slice e)) : (Op.equal t (.slice a l c) (.slice none 0 0)).run P w = .ok a.isNone w := run_eqIn w 9999 t e a l c h
theorem run_eqlN {P : Program} (w : World) (t e : TypeId) (a : Option Addr) (l c : Nat) (x y : Operand) (h : P.underlying t = some (.slice e)) : (binS .eql t x y (.slice a l c) (.slice none 0 0)).run P w = .ok (.bool a.isNone) w := by
  simp [binS, eqGuard, binOp, run_eqN w t e a l c h]
theorem run_neqN {P : Program} (w : World) (t e : TypeId) (a : Option Addr) (l c : Nat) (x y : Operand) (h : P.underlying t = some (.slice e)) : (binS .neq t x y (.slice a l c) (.slice none 0 0)).run P w = .ok (.bool (!a.isNone)) w := by
  simp [binS, eqGuard, binOp, run_eqN w t e a l c h]
theorem nilB_ok {bad : Nat → Prop} {K : Kt} {w : World} {x : AVal} {v : Value} (h : canNil x = true) (hr : Rv bad K w x v) : ∃ ad l c, v = .slice ad l c ∧ nilB x ad.isNone := by
  cases hr with
  | nils => exact ⟨none, 0, 0, rfl, rfl⟩
  | d hd =>
    cases hd with
    | list hs hc hw h1 h2 ha =>
      rename_i xs ad cap sz b o f
      refine ⟨ad, _, _, rfl, fun hn => ?_⟩
      rcases List.eq_nil_or_concat xs with e | ⟨_, _, e⟩
      · exact e
      · rw [ha (by rw [e]; simp)] at hn; cases hn
    | v _ => simp [canNil] at h
    | agg => simp [canNil] at h
  | _ => simp [canNil] at h
theorem nilX_ok {P : Program} {E : Env} {σ : St} {a : Act} {w : World} {K : Kt} {o : Oper} {N : St → Prop} (hR : Rel E σ a w K) (h : nilGo P σ o.dst N (nilTag o.op)) :
    ∃ b, N (σ.put o.dst (.d (.v (.bool b)))) ∧ (execOp a.eval o).run P w = .ok (.value (.bool b)) w ∧ okDst σ.n o.dst = true := by
  have tyOf : ∀ {t : TypeId}, isSlT P t = true → ∃ e, P.underlying t = some (.slice e) := fun {t} ht => by
    unfold isSlT at ht
    split at ht
    · rename_i e he; exact ⟨e, he⟩
    · cases ht
  cases hx : nilTag o.op with
  | none => rw [hx] at h; exact h.elim
  | some p =>
    obtain ⟨k, t, x⟩ := p
    rw [hx] at h
    obtain ⟨h1, h2, h3, h4⟩ := h
    obtain ⟨e, he⟩ := tyOf h1
    obtain ⟨ad, l, c, hv, hb⟩ := nilB_ok h3 (hR.ev x)
    unfold nilTag at hx
    split at hx
    · rename_i tt xx uu ho
      simp only [Option.some.injEq, Prod.mk.injEq] at hx
      obtain ⟨rfl, rfl, rfl⟩ := hx
      refine ⟨_, h4 _ hb, ?_, h2⟩
      have := run_eqlN w _ e ad l c xx (.const (.slice none 0 0)) he
      have e2 : execOp a.eval o = (binS .eql tt xx (.const (.slice none 0 0)) (a.eval xx) (.slice none 0 0) >>= fun r => pure (.value r)) := by simp only [execOp, ho]; rfl
      rw [e2, hv, Sem.run_bind, this]
      rfl
    · rename_i tt xx uu ho
      simp only [Option.some.injEq, Prod.mk.injEq] at hx
      obtain ⟨rfl, rfl, rfl⟩ := hx
      refine ⟨_, h4 _ hb, ?_, h2⟩
      have := run_neqN w _ e ad l c xx (.const (.slice none 0 0)) he
      have e2 : execOp a.eval o = (binS .neq tt xx (.const (.slice none 0 0)) (a.eval xx) (.slice none 0 0) >>= fun r => pure (.value r)) := by simp only [execOp, ho]; rfl
      rw [e2, hv, Sem.run_bind, this]
      rfl
    · cases hx
/-- nil slices told as the very value nil (b), or left. -/
def nilA : AVal → AVal
  | .nils => .d (.v (.slice none 0 0))
  | x => x
def nilL (b : Bool) (xs : List AVal) : List AVal := bif b then xs.map nilA else xs
theorem nilL_ok {bad : Nat → Prop} {K : Kt} {w : World} {b : Bool} {xs : List AVal} {vs : List Value} (h : P2 (Rv bad K w) xs vs) : P2 (Rv bad K w) (nilL b xs) vs := by
  cases b with
  | false => exact h
  | true =>
    refine ⟨by simpa [nilL] using h.1, fun j c u hc hu => ?_⟩
    simp only [nilL, cond_true, List.getElem?_map] at hc
    obtain ⟨x, hx, rfl⟩ := Option.map_eq_some_iff.1 hc
    have := h.2 j x u hx hu
    cases this with
    | nils => exact .d (.v rfl)
    | any => exact .any
    | d h => exact .d h
    | tup hl h => exact .tup hl h
    | ptr h => exact .ptr h
    | ref h => exact .ref h
    | elt h => exact .elt h
    | cptr h1 h2 h3 => exact .cptr h1 h2 h3
    | clo hl h => exact .clo hl h
theorem nilL_len (b : Bool) (xs : List AVal) : (nilL b xs).length = xs.length := by cases b <;> simp [nilL]
def CallOk (P : Program) (σ : St) (f : FuncId) (args : List AVal) (dst : Option Tmp) (N : St → Prop) : Prop :=
  (∃ ds σ1 r, frzL σ args = some (ds, σ1) ∧ PCalls P f ds r ∧ N ((bif scalarA r then σ else σ1).put dst r)) ∨ (∃ m args' σ1, frzM m σ args = some (args', σ1) ∧ ACalls P f args' (σ1.lev + 1) σ1.H (fun r H' => N (St.put { σ1 with H := H' } dst r))) ∨
    ∃ b d ds σ1 sz xs, dst = some d ∧ frzL σ (nilL b args) = some (ds, σ1) ∧ FCalls P f ds sz xs ∧ N (σ1.alloc d (.arr sz xs) (.ref σ1.lev d xs.length))
noncomputable def aOps (P : Program) (ops : Array Oper) (N : St → Prop) : List Nat → St → Prop
  | [], σ => N σ
  | i :: is, σ =>
    match ops[i]? with
    | none => aOps P ops N is σ
    | some o =>
      match gdOf ops σ o with
      | none => False
      | some false => okDst σ.n o.dst = true ∧ aOps P ops N is (σ.put o.dst (.tup []))
      | some true =>
        match callOf σ o with
        | some (f, args) => okDst σ.n o.dst = true ∧ CallOk P σ f args o.dst (aOps P ops N is)
        | none =>
          match stepOp P σ o with
          | none => nilGo P σ o.dst (aOps P ops N is) (nilTag o.op)
          | some σ' => aOps P ops N is σ'
theorem run_call {P : Program} {E : Env} {σ : St} {a : Act} {w : World} {K : Kt} {o : Oper} {f : FuncId} {args : List AVal} (hR : Rel E σ a w K) (h : callOf σ o = some (f, args)) (hb : hasBody P f = true) :
    ∃ vs, (execOp a.eval o).run P w = .ok (.enter f ⟨vs⟩) w ∧ P2 (Rv (badOf E.S0 K σ.H) K w) args vs ∧ AVal.belL (σ.lev + 1) args = true := by
  unfold callOf callD at h
  split at h
  · rename_i x xs ts ho
    rw [evL_eq] at h
    have hx := hR.ev x
    have hxb := hR.evb x
    generalize hv : a.eval x = v at hx
    generalize evO σ x = q at hx hxb h
    cases hx with
    | clo hl hr =>
      rename_i g caps cvs
      simp only [Option.some.injEq, Prod.mk.injEq] at h
      obtain ⟨rfl, rfl⟩ := h
      refine ⟨xs.toList.map a.eval ++ cvs, ?_, (P2.evs hR xs.toList).append ⟨hl, hr⟩, ?_⟩
      · unfold hasBody at hb
        cases hf : P.funcs[g]? with
        | none => rw [hf] at hb; cases hb
        | some fn =>
          rw [hf] at hb
          simp only [Bool.and_eq_true, Bool.not_eq_true'] at hb
          obtain ⟨h1, h2⟩ := hb
          have h3 : fn.body.isNone = false := by cases hbd : fn.body <;> simp_all
          have h4 : (fn.name == "runtime.NumGoroutine") = false := h2
          simp only [execOp, ho, resolve, hv, Deferred.ofValue, invoke]
          simp [callFunc, hf, h3, h4]
          have h5 : fn.name ≠ "runtime.NumGoroutine" := by simpa using h4
          simp [h5]
          cases hbd : fn.body with
          | none => rw [hbd] at h1; simp at h1
          | some c => simp
      · rw [AVal.belL_iff]
        intro y hy
        rcases List.mem_append.1 hy with hy | hy
        · obtain ⟨z, _, rfl⟩ := List.mem_map.1 hy
          exact hR.evb z
        · simp only [AVal.bel] at hxb
          exact (AVal.belL_iff _ _).1 hxb y hy
    | _ => cases h
  · cases h
theorem HRel.dead {S0 : Nat → Prop} {w : World} {K : Kt} (hl : ∀ b, S0 b → b < w.heap.size) : HRel ⟨S0, ownsIn K (fun _ _ => .dead), badOf S0 K (fun _ _ => .dead), K, w⟩ 0 (fun _ _ => .dead) w K :=
  ⟨fun _ _ => trivial, fun _ _ _ _ _ h => h.elim, fun _ _ _ h => h.elim, hl, Ch.refl _ w, fun _ _ _ h => h.elim, fun _ _ _ => rfl, fun _ _ => rfl, Keeps.rfl', fun _ _ _ _ h => absurd h (Nat.not_lt_zero _)⟩
theorem badOf_size {E : Env} {lev : Nat} {H : Hp} {w : World} {K : Kt} (h : HRel E lev H w K) (b : Nat) (hb : badOf E.S0 K H b) : b < w.heap.size := by
  rcases hb with hb | ⟨l, t, hb⟩
  · exact h.low b hb
  · exact h.size hb
theorem Rel.world {E : Env} {σ : St} {a : Act} {w w' : World} {K : Kt} (h : Rel E σ a w K) (hch : Ch (fun _ => False) w w') : Rel E σ a w' K :=
  ⟨h.size, h.defs, fun t => (h.tm t).mono (fun b hb hn => ⟨hn, hch.block b hb id⟩) (fun _ _ _ _ hz => hz), h.tb, h.hr.world hch⟩
theorem callOk_sound {P : Program} {E : Env} {σ : St} {a : Act} {w : World} {K : Kt} {f : FuncId} {args : List AVal} {dst : Option Tmp} {N : St → Prop} {vs : List Value} (hR : Rel E σ a w K) (hd : okDst σ.n dst = true)
    (hp : P2 (Rv (badOf E.S0 K σ.H) K w) args vs) (hbel : AVal.belL (σ.lev + 1) args = true) (h : CallOk P σ f args dst N) :
    Calls P f ⟨vs⟩ w fun e w' => ∃ v σ' K', e = .returned v ∧ N σ' ∧ Rel E σ' (a.put dst v) w' K' := by
  rcases h with ⟨ds, σ1, r, hf, hc, hN⟩ | ⟨m, args', σ1, hfm, hc⟩ | ⟨b, d, ds, σ1, sz, xs, rfl, hf, hc, hN⟩
  · obtain ⟨F, hlen, G⟩ := frzL_ok hR hf
    have hR1 := F.rel a hR
    refine (hc.2 (badOf E.S0 K σ1.H) w (fun _ _ _ => none) vs ?_ ?_ (fun _ _ _ => rfl) (HRel.dead (badOf_size hR1.hr))).mono ?_
    · refine ⟨by rw [List.length_map, hlen, hp.1], fun j c x hc hx => ?_⟩
      rw [List.getElem?_map] at hc
      obtain ⟨y, hy, rfl⟩ := Option.map_eq_some_iff.1 hc
      have hj : j < args.length := by rw [← hlen]; exact (List.getElem?_eq_some_iff.1 hy).1
      refine .d ?_
      have := G j _ y x (List.getElem?_eq_getElem hj) hy (hp.2 j _ x (List.getElem?_eq_getElem hj) hx)
      exact this.mono (fun b hb hn => ⟨fun e => hn (by rcases e with e | ⟨_, _, e⟩; exact e; exact e.elim), rfl⟩)
    · rw [AVal.belL_iff]
      intro y hy
      obtain ⟨z, _, rfl⟩ := List.mem_map.1 hy
      rfl
    · rintro e w' ⟨v, r', H', K', rfl, rfl, hh, hdead, hrv, hrb⟩
      have hdead' : H' = fun _ _ => .dead := by funext l t; exact hdead l t (Nat.zero_le _)
      subst hdead'
      have hch : Ch (fun _ => False) w w' := hh.ext.mono (fun b ⟨_, _, e⟩ => e.elim)
      have hrv1 : Rv (badOf E.S0 K σ1.H) K w' r' v := by
        have h0 := Rv.bel0 (K' := K) (m := 0) (fun l t n z hl => absurd hl (Nat.not_lt_zero _)) hrb hrv
        exact h0.mono (fun b hb hn => ⟨fun e => hn (.inl e), rfl⟩) (fun _ _ _ _ hz => hz)
      cases hs : scalarA r' with
      | true =>
        rw [hs] at hN
        exact ⟨v, _, K, rfl, hN, (hR.world hch).put_pure hd (Rv.scalar hs hrv) (AVal.bel_mono (Nat.zero_le _) _ hrb)⟩
      | false =>
        rw [hs] at hN
        exact ⟨v, _, K, rfl, hN, (hR1.world hch).put_pure (by rw [F.n]; exact hd) hrv1 (AVal.bel_mono (Nat.zero_le _) _ hrb)⟩
  · obtain ⟨F, G⟩ := frzM_ok hR hfm
    have hd : okDst σ1.n dst = true := by rw [F.n]; exact hd
    have hbel : AVal.belL (σ1.lev + 1) args = true := by rw [F.lev]; exact hbel
    obtain ⟨hp, hbel⟩ := G vs hp _ hbel
    have hR := F.rel a hR
    clear F G hfm
    have hpre : HRel ⟨E.S0, ownsIn K σ1.H, badOf E.S0 K σ1.H, K, w⟩ (σ1.lev + 1) σ1.H w K :=
      ⟨hR.hr.ob, hR.hr.inj, hR.hr.sep, hR.hr.low, Ch.refl _ w, fun l t b hb => .inl ⟨l, t, hb⟩, fun l t hl => hR.hr.top l t (by omega), hR.hr.hb, Keeps.rfl', fun _ _ _ _ _ h => h⟩
    refine (hc.2 E.S0 w K vs hp hbel (fun l t hl => hR.hr.top l t (by omega)) hpre).mono ?_
    rintro e w' ⟨v, r', H', K', rfl, hN, hh, hdead, hrv, hrb⟩
    have hr' : HRel E σ1.lev H' w' K' := ⟨hh.ob, hh.inj, hh.sep, hh.low, hR.hr.ext.trans hh.ext (fun x ⟨l, t, hx⟩ => hR.hr.new l t x hx), fun l t b hb => by
        rcases hh.new l t b hb with ⟨l2, t2, e⟩ | e
        · exact hR.hr.new l2 t2 b e
        · exact .inr (Nat.le_trans hR.hr.ext.size e), fun l t hl => hdead l t (by omega), hh.hb, hR.hr.kp.trans hh.kp hR.hr.ext.size, fun l t n z hl hz => hh.k0 l t n z (by omega) (hR.hr.k0 l t n z hl hz)⟩
    have hK2 : ∀ {x : AVal} {u : Value}, x.bel (σ1.lev + 1) = true → Rv (badOf E.S0 K σ1.H) K w x u → Rv (badOf E.S0 K' H') K' w' x u := fun hb hx => by
      have h0 := Rv.bel0 (K' := K') (m := σ1.lev + 1) hh.k0 hb hx
      exact h0.mono hh.kp (fun _ _ _ _ hz => hz)
    refine ⟨v, _, K', rfl, hN, ?_⟩
    have hR2 : Rel E { σ1 with H := H' } a w' K' := ⟨hR.size, hR.defs, fun t => hK2 (hR.tb t) (hR.tm t), hR.tb, hr'⟩
    exact hR2.put_pure hd hrv hrb
  · obtain ⟨F, hlen, G⟩ := frzL_ok hR hf
    rw [nilL_len] at hlen
    have hp' := nilL_ok (b := b) hp
    have hR1 := F.rel a hR
    refine (hc.2 (badOf E.S0 K σ1.H) w vs (badOf_size hR1.hr) ⟨by rw [hlen, hp.1], fun j c x hc hx => ?_⟩).mono ?_
    · have hj : j < (nilL b args).length := by rw [nilL_len, ← hlen]; exact (List.getElem?_eq_some_iff.1 hc).1
      exact G j _ c x (List.getElem?_eq_getElem hj) hc (hp'.2 j _ x (List.getElem?_eq_getElem hj) hx)
    · rintro e w' ⟨ad, cap, rfl, hch, h1, h2, h3, h4⟩
      obtain ⟨K', hK'⟩ := hR1.arr2 (by rw [F.n]; exact hd) hch h1 h2 h3 h4
      exact ⟨_, _, K', rfl, hN, hK'⟩
theorem aOps_sound {P : Program} {ops : Array Oper} {E : Env} {N : St → Prop} {Q : Exit → Act → World → Prop} (hN : ∀ σ a w K, N σ → Rel E σ a w K → Q .normal a w) : ∀ (l : List Nat) (σ : St) (a : Act) (w : World) (K : Kt), aOps P ops N l σ → Rel E σ a w K → wpOps P ops Q l a w
  | [], σ, a, w, K, h, hR => hN σ a w K h hR
  | i :: is, σ, a, w, K, h, hR => by
    simp only [aOps] at h
    simp only [wpOps]
    cases ho : ops[i]? with
    | none => rw [ho] at h; exact aOps_sound hN is σ a w K h hR
    | some o =>
      rw [ho] at h
      simp only at h ⊢
      cases hg : gdOf ops σ o with
      | none => rw [hg] at h; exact h.elim
      | some b =>
        rw [hg] at h
        have hw := gdOf_eq hR hg
        cases b with
        | false =>
          simp only at h
          rw [hw, if_neg (by simp)]
          exact aOps_sound hN is _ _ w K h.2 (hR.put_pure h.1 (.tup (xs := []) (vs := []) rfl (by simp)) rfl)
        | true =>
          simp only at h
          rw [hw, if_pos rfl]
          left
          cases hc : callOf σ o with
          | some p =>
            obtain ⟨f, args⟩ := p
            rw [hc] at h
            simp only at h
            have hb : hasBody P f = true := by
              rcases h.2 with ⟨_, _, _, _, h, _⟩ | ⟨_, _, _, _, h⟩ | ⟨_, _, _, _, _, _, _, _, h, _⟩
              · exact h.1
              · exact h.1
              · exact h.1
            obtain ⟨vs, hrun, hp, hbel⟩ := run_call hR hc hb
            unfold Oper.wp
            rw [hrun]
            simp only [Oper.upon_enter]
            refine (callOk_sound hR h.1 hp hbel h.2).mono ?_
            rintro e w' ⟨v, σ', K', rfl, hN', hR'⟩
            exact aOps_sound hN is σ' _ w' K' hN' hR'
          | none =>
            rw [hc] at h
            simp only at h
            cases hs : stepOp P σ o with
            | none =>
              rw [hs] at h
              obtain ⟨b, hb, hrun, hd⟩ := nilX_ok hR h
              unfold Oper.wp
              rw [hrun, Oper.upon_value]
              exact aOps_sound hN is _ _ w K hb (hR.put_pure hd (.d (.v rfl)) rfl)
            | some σ' =>
            rw [hs] at h
            simp only at h
            obtain ⟨v, w', K', hrun, hR'⟩ := step_ok hs E a w K hR
            unfold Oper.wp
            rcases hrun with hrun | ⟨hrun, rfl⟩
            · rw [hrun, Oper.upon_value]
              exact aOps_sound hN is σ' _ w' K' h hR'
            · rw [hrun, Oper.upon_skip]
              exact aOps_sound hN is σ' _ w' K' h hR'
end Go.Fw
