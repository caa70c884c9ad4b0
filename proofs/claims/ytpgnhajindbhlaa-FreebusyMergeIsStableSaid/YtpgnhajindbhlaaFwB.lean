/- States of a frame, and what concrete states they stand for; how they may change. -/
import Derived.Test.YtpgnhajindbhlaaFwA
set_option autoImplicit false
namespace Go.Fw
/-- A frame's objects. -/
inductive AObj where
  | dead
  | box (cs : List AVal)
  | arr (sz : Nat) (xs : List DVal)
  | frz (xs : List DVal)
abbrev Hp := Nat → Nat → AObj
def Hp.set (H : Hp) (l t : Nat) (o : AObj) : Hp := fun l' t' => bif l' == l && t' == t then o else H l' t'
def AObj.purge (l t : Nat) : AObj → AObj
  | .box cs => .box (AVal.purgeL l t cs)
  | .arr sz xs => .arr sz xs
  | .frz xs => .frz xs
  | .dead => .dead
/-- A new object at a slot of level l: what the slot held is forgotten. -/
def Hp.alloc (H : Hp) (l t : Nat) (o : AObj) : Hp := fun l' t' => bif l' == l then (bif t' == t then o else (H l' t').purge l t) else H l' t'

mutual
/-- All references are to levels below m. -/
def AVal.bel (m : Nat) : AVal → Bool
  | .ptr l _ _ => Nat.blt l m
  | .ref l _ _ => Nat.blt l m
  | .elt l _ _ _ _ => Nat.blt l m
  | .tup xs => AVal.belL m xs
  | .clo _ xs => AVal.belL m xs
  | .any => true
  | .nils => true
  | .d _ => true
  | .cptr _ => true
def AVal.belL (m : Nat) : List AVal → Bool
  | [] => true
  | x :: xs => AVal.bel m x && AVal.belL m xs
end
def AObj.bel (m : Nat) : AObj → Bool
  | .box cs => AVal.belL m cs
  | _ => true

theorem AVal.belL_iff (m : Nat) : ∀ xs, AVal.belL m xs = true ↔ ∀ x ∈ xs, AVal.bel m x = true
  | [] => by simp [AVal.belL]
  | x :: xs => by simp [AVal.belL, AVal.belL_iff m xs]

theorem blt_false {l m l0 : Nat} (h : Nat.blt l m = true) (hm : m ≤ l0) : (l == l0) = false := by
  have : l < m := by simpa [Nat.blt_eq] using h
  simp; omega

mutual
theorem AVal.purge_bel {m l0 t0 : Nat} (hm : m ≤ l0) : ∀ x : AVal, x.bel m = true → x.purge l0 t0 = x
  | .ptr l t off, h => by simp only [AVal.bel] at h; simp [AVal.purge, blt_false h hm]
  | .ref l t n, h => by simp only [AVal.bel] at h; simp [AVal.purge, blt_false h hm]
  | .elt l t n i j, h => by simp only [AVal.bel] at h; simp [AVal.purge, blt_false h hm]
  | .tup xs, h => by simp only [AVal.bel] at h; simp [AVal.purge, AVal.purgeL_bel hm xs h]
  | .clo f xs, h => by simp only [AVal.bel] at h; simp [AVal.purge, AVal.purgeL_bel hm xs h]
  | .any, _ => by simp [AVal.purge]
  | .nils, _ => by simp [AVal.purge]
  | .d _, _ => by simp [AVal.purge]
  | .cptr _, _ => by simp [AVal.purge]
theorem AVal.purgeL_bel {m l0 t0 : Nat} (hm : m ≤ l0) : ∀ xs : List AVal, AVal.belL m xs = true → AVal.purgeL l0 t0 xs = xs
  | [], _ => by simp [AVal.purgeL]
  | x :: xs, h => by
    simp only [AVal.belL, Bool.and_eq_true] at h
    simp [AVal.purgeL, AVal.purge_bel hm x h.1, AVal.purgeL_bel hm xs h.2]
end
mutual
theorem AVal.bel_purge {m l0 t0 : Nat} : ∀ x : AVal, x.bel m = true → (x.purge l0 t0).bel m = true
  | .ptr l t off, h => by simp only [AVal.purge]; cases (l == l0 && t == t0) <;> simp_all [AVal.bel]
  | .ref l t n, h => by simp only [AVal.purge]; cases (l == l0 && t == t0) <;> simp_all [AVal.bel]
  | .elt l t n i j, h => by simp only [AVal.purge]; cases (l == l0 && t == t0) <;> simp_all [AVal.bel]
  | .tup xs, h => by simp only [AVal.bel] at h; simp only [AVal.purge, AVal.bel]; exact AVal.belL_purge xs h
  | .clo f xs, h => by simp only [AVal.bel] at h; simp only [AVal.purge, AVal.bel]; exact AVal.belL_purge xs h
  | .any, _ => by simp [AVal.purge, AVal.bel]
  | .nils, _ => by simp [AVal.purge, AVal.bel]
  | .d _, _ => by simp [AVal.purge, AVal.bel]
  | .cptr _, _ => by simp [AVal.purge, AVal.bel]
theorem AVal.belL_purge {m l0 t0 : Nat} : ∀ xs : List AVal, AVal.belL m xs = true → AVal.belL m (AVal.purgeL l0 t0 xs) = true
  | [], _ => by simp [AVal.purgeL, AVal.belL]
  | x :: xs, h => by
    simp only [AVal.belL, Bool.and_eq_true] at h
    simp [AVal.purgeL, AVal.belL, AVal.bel_purge x h.1, AVal.belL_purge xs h.2]
end
mutual
theorem AVal.bel_mono {m m' : Nat} (hm : m ≤ m') : ∀ x : AVal, x.bel m = true → x.bel m' = true
  | .ptr l t off, h => by simp only [AVal.bel, Nat.blt_eq] at *; omega
  | .ref l t n, h => by simp only [AVal.bel, Nat.blt_eq] at *; omega
  | .elt l t n i j, h => by simp only [AVal.bel, Nat.blt_eq] at *; omega
  | .tup xs, h => by simp only [AVal.bel] at *; exact AVal.belL_mono hm xs h
  | .clo f xs, h => by simp only [AVal.bel] at *; exact AVal.belL_mono hm xs h
  | .any, _ => by simp [AVal.bel]
  | .nils, _ => by simp [AVal.bel]
  | .d _, _ => by simp [AVal.bel]
  | .cptr _, _ => by simp [AVal.bel]
theorem AVal.belL_mono {m m' : Nat} (hm : m ≤ m') : ∀ xs : List AVal, AVal.belL m xs = true → AVal.belL m' xs = true
  | [], _ => by simp [AVal.belL]
  | x :: xs, h => by
    simp only [AVal.belL, Bool.and_eq_true] at *
    exact ⟨AVal.bel_mono hm x h.1, AVal.belL_mono hm xs h.2⟩
end
theorem AObj.purge_bel {m l0 t0 : Nat} (hm : m ≤ l0) (x : AObj) (h : x.bel m = true) : x.purge l0 t0 = x := by
  cases x <;> simp only [AObj.purge]
  rw [AVal.purgeL_bel hm _ h]
theorem AObj.bel_purge {m l0 t0 : Nat} (x : AObj) (h : x.bel m = true) : (x.purge l0 t0).bel m = true := by
  cases x <;> simp only [AObj.purge] <;> first | exact h | rfl | exact AVal.belL_purge _ h

/-- Which block an object owns. -/
def AObj.own (K : Kt) (l t b : Nat) : AObj → Prop
  | .box _ => ∃ z, K l t 0 = some (some ⟨b, 0, none⟩, z)
  | .arr _ xs => ∃ o z, K l t xs.length = some (some ⟨b, o, none⟩, z)
  | .frz _ => False
  | .dead => False

def ArrAt (bad : Nat → Prop) (w wh : World) (sz : Nat) (xs : List DVal) (cap : Nat) : Option Addr → Prop
  | none => xs = [] ∧ cap = 0
  | some ad => ad.spot = none ∧ ∃ (vs : List Value) (ty : TypeId) (fz : Nat × Nat), wh.heap[ad.block]? = some (.cells ⟨vs⟩ ty fz) ∧ (∀ j, j < vs.length → ¬ (fz.1 ≤ j ∧ j < fz.2)) ∧ ad.off + cap * sz ≤ vs.length ∧
      ∀ (j : Nat) (c : DVal), (xs.flatMap DVal.cells)[j]? = some c → ∃ u, vs[ad.off + j]? = some u ∧ u.oneCell' = true ∧ Rd bad w c u

def Robj (bad : Nat → Prop) (K : Kt) (w : World) (l t : Nat) : AObj → Prop
  | .dead => True
  | .box cs => (∀ n, 0 < n → K l t n = none) ∧ ∃ (b : Nat) (vs : List Value) (ty : TypeId) (z : Nat × Nat), K l t 0 = some (some ⟨b, 0, none⟩, z) ∧ w.heap[b]? = some (.cells ⟨vs⟩ ty (0, 0)) ∧ vs.length = cs.length ∧
      (∀ (j : Nat) (x : Value), vs[j]? = some x → x.oneCell' = true) ∧ ∀ (j : Nat) (c : AVal) (x : Value), cs[j]? = some c → vs[j]? = some x → Rv bad K w c x
  | .arr sz xs => (∀ n, xs.length < n → K l t n = none) ∧ ∃ (a : Option Addr) (cap : Nat), K l t xs.length = some (a, cap, sz) ∧ (∀ x ∈ xs, x.cells.length = sz) ∧ xs.length ≤ cap ∧ ArrAt bad w w sz xs cap a
  | .frz xs => ∃ (a : Option Addr) (cap sz : Nat), K l t xs.length = some (a, cap, sz) ∧ (∀ x ∈ xs, x.cells.length = sz) ∧ Rd bad w (.list xs) (.slice a xs.length cap)

theorem AObj.own_size {bad : Nat → Prop} {K : Kt} {w : World} {l t b : Nat} {o : AObj} (h : Robj bad K w l t o) (ho : o.own K l t b) : b < w.heap.size := by
  have key : ∀ (b : Nat) (x : Obj), w.heap[b]? = some x → b < w.heap.size := fun b x hx => by
    rcases Nat.lt_or_ge b w.heap.size with h' | h'
    · exact h'
    · simp [Array.getElem?_eq_none h'] at hx
  cases o with
  | dead => exact ho.elim
  | frz xs => exact ho.elim
  | box cs =>
    obtain ⟨_, b', vs, ty, z, h1, h2, _⟩ := h
    obtain ⟨z', hz⟩ := ho
    rw [h1] at hz
    simp only [Option.some.injEq, Prod.mk.injEq, Addr.mk.injEq] at hz
    obtain ⟨⟨rfl, _⟩, _⟩ := hz
    exact key _ _ h2
  | arr sz xs =>
    obtain ⟨_, a, cap, h1, _, _, h2⟩ := h
    obtain ⟨off, z, hz⟩ := ho
    rw [h1] at hz
    simp only [Option.some.injEq, Prod.mk.injEq] at hz
    obtain ⟨rfl, _⟩ := hz
    obtain ⟨_, vs, ty, fz, h3, _⟩ := h2
    exact key _ _ h3

def badOf (S0 : Nat → Prop) (K : Kt) (H : Hp) (b : Nat) : Prop := S0 b ∨ ∃ l t, (H l t).own K l t b

/-- Blocks outside o are as they were. -/
structure Ch (o : Nat → Prop) (w w' : World) : Prop where
  os : w'.os = w.os
  tape : w'.tape = w.tape
  output : w'.output = w.output
  size : w.heap.size ≤ w'.heap.size
  drawn : w.drawn ≤ w'.drawn
  block : ∀ b, b < w.heap.size → ¬ o b → w'.heap[b]? = w.heap[b]?
theorem Ch.refl (o : Nat → Prop) (w : World) : Ch o w w := ⟨rfl, rfl, rfl, Nat.le_refl _, Nat.le_refl _, fun _ _ _ => rfl⟩
theorem Ch.trans {o o' : Nat → Prop} {a b c : World} (h : Ch o a b) (k : Ch o' b c) (ho : ∀ x, o' x → o x ∨ a.heap.size ≤ x) : Ch o a c :=
  ⟨k.os.trans h.os, k.tape.trans h.tape, k.output.trans h.output, Nat.le_trans h.size k.size, Nat.le_trans h.drawn k.drawn, fun x hx hn => by
    rw [k.block x (Nat.lt_of_lt_of_le hx h.size) (fun e => by rcases ho x e with e | e; exact hn e; omega), h.block x hx hn]⟩
theorem Ch.mono {o o' : Nat → Prop} {a b : World} (h : Ch o a b) (ho : ∀ x, o x → o' x) : Ch o' a b := ⟨h.os, h.tape, h.output, h.size, h.drawn, fun x hx hn => h.block x hx (fun e => hn (ho x e))⟩
theorem Ch.below {w w' : World} (h : Ch (fun _ => False) w w') : RowKit.Below w.heap.size w w' := ⟨h.os, h.tape, h.output, h.size, fun k hk => h.block k hk id⟩

theorem Robj.mono {bad bad' : Nat → Prop} {K K' : Kt} {w w' : World} {l t : Nat} {o : AObj} (h : Robj bad K w l t o) (hk : Keeps bad w bad' w') (hK : ∀ l t n z, K l t n = some z → K' l t n = some z)
    (hKe : K' l t = K l t) (hb : ∀ b, o.own K l t b → w'.heap[b]? = w.heap[b]?) : Robj bad' K' w' l t o := by
  cases o with
  | dead => trivial
  | box cs =>
    obtain ⟨hn, b, vs, ty, z, h1, h2, h3, h4, h5⟩ := h
    refine ⟨fun n hn' => by rw [hKe]; exact hn n hn', b, vs, ty, z, by rw [hKe]; exact h1, ?_, h3, h4, fun j c x hc hx => (h5 j c x hc hx).mono hk hK⟩
    rw [hb b ⟨z, h1⟩]; exact h2
  | arr sz xs =>
    obtain ⟨hn, a, cap, h1, h2, h3, h4⟩ := h
    refine ⟨fun n hn' => by rw [hKe]; exact hn n hn', a, cap, by rw [hKe]; exact h1, h2, h3, ?_⟩
    cases a with
    | none => exact h4
    | some ad =>
      obtain ⟨b, off, spot⟩ := ad
      obtain ⟨rfl, vs, ty, fz, h5, h6, h7, h8⟩ := h4
      refine ⟨rfl, vs, ty, fz, by rw [hb b ⟨off, _, h1⟩]; exact h5, h6, h7, fun j c hc => ?_⟩
      obtain ⟨u, hu, hu1, hu2⟩ := h8 j c hc
      exact ⟨u, hu, hu1, hu2.mono hk⟩
  | frz xs =>
    obtain ⟨a, cap, sz, h1, hs, h2⟩ := h
    exact ⟨a, cap, sz, by rw [hKe]; exact h1, hs, h2.mono hk⟩

/-- A frame's state. -/
structure St where
  n : Nat
  lev : Nat
  T : List (Nat × AVal)
  H : Hp
def lk : List (Nat × AVal) → Nat → AVal
  | [], _ => .any
  | (k, x) :: r, t => bif Nat.beq k t then x else lk r t
def purgeT (l t : Nat) : List (Nat × AVal) → List (Nat × AVal)
  | [] => []
  | (k, x) :: r => (k, AVal.purge l t x) :: purgeT l t r
theorem lk_purgeT (l t j : Nat) : ∀ T, lk (purgeT l t T) j = (lk T j).purge l t
  | [] => by simp [purgeT, lk, AVal.purge]
  | (k, x) :: r => by
    simp only [purgeT, lk]
    cases Nat.beq k j
    · simpa using lk_purgeT l t j r
    · rfl

/-- A call's surroundings: blocks that no data of the call may lie in, blocks that may change, the world at the start. -/
structure Env where
  S0 : Nat → Prop
  own0 : Nat → Prop
  bad0 : Nat → Prop
  K0 : Kt
  w0 : World
theorem Keeps.trans {b1 b2 b3 : Nat → Prop} {w1 w2 w3 : World} (h : Keeps b1 w1 b2 w2) (k : Keeps b2 w2 b3 w3) (hs : w1.heap.size ≤ w2.heap.size) : Keeps b1 w1 b3 w3 := fun b hb hn => by
  obtain ⟨h1, h2⟩ := h b hb hn
  obtain ⟨h3, h4⟩ := k b (by omega) h1
  exact ⟨h3, h4.trans h2⟩

structure HRel (E : Env) (lev : Nat) (H : Hp) (w : World) (K : Kt) : Prop where
  ob : ∀ l t, Robj (badOf E.S0 K H) K w l t (H l t)
  inj : ∀ l t l' t' b, (H l t).own K l t b → (H l' t').own K l' t' b → l = l' ∧ t = t'
  sep : ∀ l t b, (H l t).own K l t b → ¬ E.S0 b
  low : ∀ b, E.S0 b → b < w.heap.size
  ext : Ch E.own0 E.w0 w
  new : ∀ l t b, (H l t).own K l t b → E.own0 b ∨ E.w0.heap.size ≤ b
  top : ∀ l t, lev < l → H l t = .dead
  hb : ∀ l t, (H l t).bel (l + 1) = true
  kp : Keeps E.bad0 E.w0 (badOf E.S0 K H) w
  k0 : ∀ l t n z, l < lev → E.K0 l t n = some z → K l t n = some z

structure Rel (E : Env) (σ : St) (a : Act) (w : World) (K : Kt) : Prop where
  size : a.tmps.size = σ.n
  defs : a.defers = []
  tm : ∀ t, Rv (badOf E.S0 K σ.H) K w (lk σ.T t) (a.tmps.getD t undef)
  tb : ∀ t, (lk σ.T t).bel (σ.lev + 1) = true
  hr : HRel E σ.lev σ.H w K

theorem HRel.size {E : Env} {lev : Nat} {H : Hp} {w : World} {K : Kt} (h : HRel E lev H w K) {l t b : Nat} (ho : (H l t).own K l t b) : b < w.heap.size := AObj.own_size (h.ob l t) ho

section write
variable {E : Env} {lev : Nat} {H : Hp} {w w' : World} {K K' : Kt} {l t : Nat} {o' : AObj}
theorem Hp.set_same : (H.set l t o') l t = o' := by simp [Hp.set]
theorem Hp.set_ne {l2 t2 : Nat} (h : ¬ (l2 = l ∧ t2 = t)) : (H.set l t o') l2 t2 = H l2 t2 := by
  have : (l2 == l && t2 == t) = false := by simpa using h
  simp [Hp.set, this]
theorem AObj.own_congr {o : AObj} {l t b : Nat} (h : K' l t = K l t) : o.own K' l t b ↔ o.own K l t b := by
  cases o <;> simp only [AObj.own, h]
theorem Keeps.write (h : HRel E lev H w K) (hch : Ch (fun b => (H l t).own K l t b) w w') (hK' : ∀ l' t', ¬ (l' = l ∧ t' = t) → K' l' t' = K l' t')
    (hown : ∀ b, o'.own K' l t b → (H l t).own K l t b ∨ w.heap.size ≤ b) : Keeps (badOf E.S0 K H) w (badOf E.S0 K' (H.set l t o')) w' := by
  intro b hb hbad
  refine ⟨?_, hch.block b hb (fun e => hbad (.inr ⟨l, t, e⟩))⟩
  rintro (e | ⟨l2, t2, e⟩)
  · exact hbad (.inl e)
  · by_cases c : l2 = l ∧ t2 = t
    · obtain ⟨rfl, rfl⟩ := c
      rw [Hp.set_same] at e
      rcases hown b e with e | e
      · exact hbad (.inr ⟨_, _, e⟩)
      · omega
    · rw [Hp.set_ne c, AObj.own_congr (hK' l2 t2 c)] at e
      exact hbad (.inr ⟨_, _, e⟩)
theorem HRel.write (h : HRel E lev H w K) (hch : Ch (fun b => (H l t).own K l t b) w w') (hK : ∀ l t n z, K l t n = some z → K' l t n = some z) (hK' : ∀ l' t', ¬ (l' = l ∧ t' = t) → K' l' t' = K l' t')
    (hown : ∀ b, o'.own K' l t b → (H l t).own K l t b ∨ w.heap.size ≤ b) (hob : Robj (badOf E.S0 K' (H.set l t o')) K' w' l t o') (hbel : o'.bel (l + 1) = true) (hlev : l ≤ lev) :
    HRel E lev (H.set l t o') w' K' := by
  have hk := Keeps.write h hch hK' hown
  constructor
  · intro l2 t2
    by_cases c : l2 = l ∧ t2 = t
    · obtain ⟨rfl, rfl⟩ := c
      rw [Hp.set_same]
      exact hob
    · rw [Hp.set_ne c]
      refine (h.ob l2 t2).mono hk hK (hK' l2 t2 c) (fun b hb => hch.block b (h.size hb) (fun e => c ?_))
      exact h.inj _ _ _ _ b hb e
  · have key : ∀ l2 t2 b, ¬ (l2 = l ∧ t2 = t) → ((H.set l t o') l2 t2).own K' l2 t2 b → (H l2 t2).own K l2 t2 b := fun l2 t2 b c e => by
      rwa [Hp.set_ne c, AObj.own_congr (hK' l2 t2 c)] at e
    have key2 : ∀ l2 t2 b, ¬ (l2 = l ∧ t2 = t) → ((H.set l t o') l2 t2).own K' l2 t2 b → o'.own K' l t b → False := fun l2 t2 b c e e' => by
      have e2 := key l2 t2 b c e
      rcases hown b e' with e3 | e3
      · exact c (h.inj _ _ _ _ b e2 e3)
      · have := h.size e2; omega
    intro l2 t2 l3 t3 b e2 e3
    by_cases c2 : l2 = l ∧ t2 = t
    · by_cases c3 : l3 = l ∧ t3 = t
      · exact ⟨c2.1.trans c3.1.symm, c2.2.trans c3.2.symm⟩
      · obtain ⟨rfl, rfl⟩ := c2
        rw [Hp.set_same] at e2
        exact (key2 l3 t3 b c3 e3 e2).elim
    · by_cases c3 : l3 = l ∧ t3 = t
      · obtain ⟨rfl, rfl⟩ := c3
        rw [Hp.set_same] at e3
        exact (key2 l2 t2 b c2 e2 e3).elim
      · exact h.inj _ _ _ _ b (key l2 t2 b c2 e2) (key l3 t3 b c3 e3)
  · intro l2 t2 b e
    by_cases c : l2 = l ∧ t2 = t
    · obtain ⟨rfl, rfl⟩ := c
      rw [Hp.set_same] at e
      rcases hown b e with e | e
      · exact h.sep _ _ b e
      · exact fun s => by have := h.low b s; omega
    · rw [Hp.set_ne c, AObj.own_congr (hK' l2 t2 c)] at e
      exact h.sep _ _ b e
  · exact fun b hb => Nat.lt_of_lt_of_le (h.low b hb) hch.size
  · exact h.ext.trans hch (fun x hx => (h.new l t x hx))
  · intro l2 t2 b e
    by_cases c : l2 = l ∧ t2 = t
    · obtain ⟨rfl, rfl⟩ := c
      rw [Hp.set_same] at e
      rcases hown b e with e | e
      · exact h.new _ _ b e
      · exact .inr (Nat.le_trans h.ext.size e)
    · rw [Hp.set_ne c, AObj.own_congr (hK' l2 t2 c)] at e
      exact h.new _ _ b e
  · intro l2 t2 hl
    rw [Hp.set_ne (fun c => by omega)]
    exact h.top l2 t2 hl
  · intro l2 t2
    by_cases c : l2 = l ∧ t2 = t
    · obtain ⟨rfl, rfl⟩ := c
      rw [Hp.set_same]
      exact hbel
    · rw [Hp.set_ne c]
      exact h.hb l2 t2
  · exact h.kp.trans hk h.ext.size
  · exact fun l t n z hl hz => hK l t n z (h.k0 l t n z hl hz)
end write
end Go.Fw
