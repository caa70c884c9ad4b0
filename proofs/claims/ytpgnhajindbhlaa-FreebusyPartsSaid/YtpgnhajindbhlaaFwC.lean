/- States: a new object; a temporary; a world of which nothing has changed. -/
import Derived.Test.YtpgnhajindbhlaaFwB
set_option autoImplicit false
namespace Go.Fw
theorem Robj.purge {bad bad' : Nat → Prop} {K K' : Kt} {w w' : World} {l t l0 t0 : Nat} {o : AObj} (h : Robj bad K w l t o) (hk : Keeps bad w bad' w')
    (hK : ∀ l t, ¬ (l = l0 ∧ t = t0) → K' l t = K l t) (hne : ¬ (l = l0 ∧ t = t0)) (hb : ∀ b, o.own K l t b → w'.heap[b]? = w.heap[b]?) : Robj bad' K' w' l t (o.purge l0 t0) := by
  have hK2 : ∀ l t n z, ¬ (l = l0 ∧ t = t0) → K l t n = some z → K' l t n = some z := fun l t n z hn hz => by rw [hK l t hn]; exact hz
  have hKe := hK l t hne
  cases o with
  | dead => trivial
  | box cs =>
    obtain ⟨hn, b, vs, ty, z, h1, h2, h3, h4, h5⟩ := h
    refine ⟨fun n hn' => by rw [hKe]; exact hn n hn', b, vs, ty, z, by rw [hKe]; exact h1, ?_, by rw [AVal.purgeL_eq]; simpa using h3, h4, fun j c x hc hx => ?_⟩
    · rw [hb b ⟨z, h1⟩]; exact h2
    · rw [AVal.purgeL_eq, List.getElem?_map] at hc
      obtain ⟨c0, hc0, rfl⟩ := Option.map_eq_some_iff.1 hc
      exact (h5 j c0 x hc0 hx).purge hk hK2
  | arr sz xs =>
    obtain ⟨hn, a, cap, h1, h2, h3, h4⟩ := h
    refine ⟨fun n hn' => by rw [hKe]; exact hn n hn', a, cap, by rw [hKe]; exact h1, h2, h3, ?_⟩
    cases a with
    | none => exact h4
    | some ad =>
      obtain ⟨b, off, spot⟩ := ad
      obtain ⟨rfl, vs, ty, fz, h5, h6, h7, h8⟩ := h4
      refine ⟨rfl, vs, ty, fz, by rw [hb b ⟨off, _, h1⟩]; exact h5, h6, h7, fun j c hc => ?_⟩
      obtain ⟨u, hu, hu1, hu2⟩ := h8 j c hc
      exact ⟨u, hu, hu1, hu2.mono hk⟩
  | frz xs =>
    obtain ⟨a, cap, sz, h1, hs, h2⟩ := h
    exact ⟨a, cap, sz, by rw [hKe]; exact h1, hs, h2.mono hk⟩
theorem AObj.own_purge {o : AObj} {K : Kt} {l t b l0 t0 : Nat} : (o.purge l0 t0).own K l t b ↔ o.own K l t b := by
  cases o <;> simp only [AObj.purge, AObj.own]

section alloc
variable {E : Env} {lev : Nat} {H : Hp} {w w' : World} {K K' : Kt} {t : Nat} {o' : AObj}
theorem Hp.alloc_same : (H.alloc lev t o') lev t = o' := by simp [Hp.alloc]
theorem HRel.alloc_at (h : HRel E lev H w K) (l2 t2 : Nat) (hn : ¬ (l2 = lev ∧ t2 = t)) : (H.alloc lev t o') l2 t2 = (H l2 t2).purge lev t := by
  unfold Hp.alloc
  by_cases e : l2 = lev
  · subst e
    have : (t2 == t) = false := by simpa using hn
    simp [this]
  · have e' : (l2 == lev) = false := by simpa using e
    simp only [e', cond_false]
    rcases Nat.lt_or_ge l2 lev with hl | hl
    · rw [AObj.purge_bel (m := l2 + 1) (by omega) _ (h.hb l2 t2)]
    · rw [h.top l2 t2 (by omega)]; rfl
theorem Keeps.alloc (h : HRel E lev H w K) (hch : Ch (fun _ => False) w w') (hK' : ∀ l' t', ¬ (l' = lev ∧ t' = t) → K' l' t' = K l' t') (hown : ∀ b, o'.own K' lev t b → w.heap.size ≤ b) :
    Keeps (badOf E.S0 K H) w (badOf E.S0 K' (H.alloc lev t o')) w' := by
  intro b hb hbad
  refine ⟨?_, hch.block b hb id⟩
  rintro (e | ⟨l2, t2, e⟩)
  · exact hbad (.inl e)
  · by_cases c : l2 = lev ∧ t2 = t
    · obtain ⟨rfl, rfl⟩ := c
      rw [Hp.alloc_same] at e
      have := hown b e
      omega
    · rw [h.alloc_at l2 t2 c, AObj.own_purge, AObj.own_congr (hK' l2 t2 c)] at e
      exact hbad (.inr ⟨_, _, e⟩)
theorem HRel.alloc (h : HRel E lev H w K) (hch : Ch (fun _ => False) w w') (hK' : ∀ l' t', ¬ (l' = lev ∧ t' = t) → K' l' t' = K l' t') (hown : ∀ b, o'.own K' lev t b → w.heap.size ≤ b)
    (hob : Robj (badOf E.S0 K' (H.alloc lev t o')) K' w' lev t o') (hbel : o'.bel (lev + 1) = true) : HRel E lev (H.alloc lev t o') w' K' := by
  have hk := Keeps.alloc h hch hK' hown
  have key : ∀ l2 t2 b, ¬ (l2 = lev ∧ t2 = t) → ((H.alloc lev t o') l2 t2).own K' l2 t2 b → (H l2 t2).own K l2 t2 b := fun l2 t2 b c e => by
    rwa [h.alloc_at l2 t2 c, AObj.own_purge, AObj.own_congr (hK' l2 t2 c)] at e
  constructor
  · intro l2 t2
    by_cases c : l2 = lev ∧ t2 = t
    · obtain ⟨rfl, rfl⟩ := c
      rw [Hp.alloc_same]
      exact hob
    · rw [h.alloc_at l2 t2 c]
      exact (h.ob l2 t2).purge hk hK' c (fun b hb => hch.block b (h.size hb) id)
  · intro l2 t2 l3 t3 b e2 e3
    by_cases c2 : l2 = lev ∧ t2 = t
    · by_cases c3 : l3 = lev ∧ t3 = t
      · exact ⟨c2.1.trans c3.1.symm, c2.2.trans c3.2.symm⟩
      · obtain ⟨rfl, rfl⟩ := c2
        rw [Hp.alloc_same] at e2
        have := hown b e2
        have := h.size (key l3 t3 b c3 e3)
        omega
    · by_cases c3 : l3 = lev ∧ t3 = t
      · obtain ⟨rfl, rfl⟩ := c3
        rw [Hp.alloc_same] at e3
        have := hown b e3
        have := h.size (key l2 t2 b c2 e2)
        omega
      · exact h.inj _ _ _ _ b (key l2 t2 b c2 e2) (key l3 t3 b c3 e3)
  · intro l2 t2 b e
    by_cases c : l2 = lev ∧ t2 = t
    · obtain ⟨rfl, rfl⟩ := c
      rw [Hp.alloc_same] at e
      have := hown b e
      exact fun s => by have := h.low b s; omega
    · exact h.sep _ _ b (key l2 t2 b c e)
  · exact fun b hb => Nat.lt_of_lt_of_le (h.low b hb) hch.size
  · exact h.ext.trans hch (fun x hx => hx.elim)
  · intro l2 t2 b e
    by_cases c : l2 = lev ∧ t2 = t
    · obtain ⟨rfl, rfl⟩ := c
      rw [Hp.alloc_same] at e
      exact .inr (Nat.le_trans h.ext.size (hown b e))
    · exact h.new _ _ b (key l2 t2 b c e)
  · intro l2 t2 hl
    rw [h.alloc_at l2 t2 (fun c => by omega), h.top l2 t2 hl]; rfl
  · intro l2 t2
    by_cases c : l2 = lev ∧ t2 = t
    · obtain ⟨rfl, rfl⟩ := c
      rw [Hp.alloc_same]
      exact hbel
    · rw [h.alloc_at l2 t2 c]
      exact AObj.bel_purge _ (h.hb l2 t2)
  · exact h.kp.trans hk h.ext.size
  · exact fun l t2 n z hl hz => by rw [hK' l t2 (by omega)]; exact h.k0 l t2 n z hl hz
end alloc

/-- A world in which nothing has changed but draws. -/
theorem HRel.world {E : Env} {lev : Nat} {H : Hp} {w w' : World} {K : Kt} (h : HRel E lev H w K) (hch : Ch (fun _ => False) w w') : HRel E lev H w' K := by
  have hk : Keeps (badOf E.S0 K H) w (badOf E.S0 K H) w' := fun b hb hbad => ⟨hbad, hch.block b hb id⟩
  exact ⟨fun l t => (h.ob l t).mono hk (fun _ _ _ _ hz => hz) rfl (fun b hb => hch.block b (h.size hb) id), h.inj, h.sep, fun b hb => Nat.lt_of_lt_of_le (h.low b hb) hch.size, h.ext.trans hch (fun x hx => hx.elim), h.new, h.top, h.hb, h.kp.trans hk h.ext.size, h.k0⟩

/-- The state with a temporary set. -/
def setT : List (Nat × AVal) → Nat → AVal → List (Nat × AVal)
  | [], t, x => [(t, x)]
  | (k, y) :: r, t, x => bif Nat.beq k t then (k, x) :: r else (k, y) :: setT r t x
def St.put (σ : St) (dst : Option Tmp) (x : AVal) : St :=
  match dst with
  | some d => { σ with T := setT σ.T d x }
  | none => σ
theorem getD_setIfInBounds (ts : Array Value) (d : Nat) (v : Value) (t : Nat) (hd : d < ts.size) : (ts.setIfInBounds d v).getD t undef = if d = t then v else ts.getD t undef := by
  simp only [Array.getD_eq_getD_getElem?, Array.getElem?_setIfInBounds]
  by_cases e : d = t
  · simp [e]; simp [← e, hd]
  · simp [e]
theorem lk_cons (k t : Nat) (x : AVal) (r : List (Nat × AVal)) : lk ((k, x) :: r) t = if k = t then x else lk r t := by
  simp only [lk]
  by_cases e : k = t
  · simp [e]
  · have : Nat.beq k t = false := by
      cases h : Nat.beq k t
      · rfl
      · exact absurd (Nat.eq_of_beq_eq_true h) e
    simp [this, e]
theorem lk_setT : ∀ (T : List (Nat × AVal)) (k t : Nat) (x : AVal), lk (setT T k x) t = if k = t then x else lk T t
  | [], k, t, x => by rw [setT, lk_cons]
  | (j, y) :: r, k, t, x => by
    rw [setT]
    cases h : Nat.beq j k with
    | true =>
      have e := Nat.eq_of_beq_eq_true h
      subst e
      simp only [cond_true, lk_cons]
      by_cases q : j = t
      · simp [q]
      · simp [q]
    | false =>
      simp only [cond_false, lk_cons, lk_setT r k t x]
      by_cases q : j = t
      · subst q
        have : ¬ k = j := fun e => by rw [e] at h; simp at h
        simp [this]
      · simp [q]
def okDst (n : Nat) : Option Tmp → Bool
  | some d => Nat.blt d n
  | none => true
/-- After something: the temporaries' values stand for what they stood for; one is set. -/
theorem Rel.put {E : Env} {σ : St} {a : Act} {w w' : World} {K K' : Kt} {H' : Hp} {dst : Option Tmp} {x : AVal} {v : Value} (h : Rel E σ a w K) (hd : okDst σ.n dst = true) (hr : HRel E σ.lev H' w' K')
    (hk : Keeps (badOf E.S0 K σ.H) w (badOf E.S0 K' H') w') (hK : ∀ l t n z, K l t n = some z → K' l t n = some z) (hx : Rv (badOf E.S0 K' H') K' w' x v) (hb : x.bel (σ.lev + 1) = true) :
    Rel E (St.put { σ with H := H' } dst x) (a.put dst v) w' K' := by
  cases dst with
  | none => exact ⟨h.size, h.defs, fun t => (h.tm t).mono hk hK, h.tb, hr⟩
  | some d =>
    have hd' : d < a.tmps.size := by rw [h.size]; simpa [okDst] using hd
    refine ⟨by simp [Act.put, St.put, h.size], h.defs, fun t => ?_, fun t => ?_, hr⟩
    · simp only [St.put, Act.put, lk_setT, getD_setIfInBounds _ _ _ _ hd']
      by_cases e : d = t
      · simp only [e, if_true]; exact hx
      · simp only [e, if_false]; exact (h.tm t).mono hk hK
    · simp only [St.put, lk_setT]
      by_cases e : d = t
      · simp only [e, if_true]; exact hb
      · simp only [e, if_false]; exact h.tb t
theorem Keeps.rfl' {bad : Nat → Prop} {w : World} : Keeps bad w bad w := fun _ _ h => ⟨h, rfl⟩
/-- Nothing but a temporary. -/
theorem Rel.put_pure {E : Env} {σ : St} {a : Act} {w : World} {K : Kt} {dst : Option Tmp} {x : AVal} {v : Value} (h : Rel E σ a w K) (hd : okDst σ.n dst = true)
    (hx : Rv (badOf E.S0 K σ.H) K w x v) (hb : x.bel (σ.lev + 1) = true) : Rel E (σ.put dst x) (a.put dst v) w K :=
  h.put hd h.hr Keeps.rfl' (fun _ _ _ _ hz => hz) hx hb
/-- A new object. -/
def St.alloc (σ : St) (dst : Nat) (o : AObj) (x : AVal) : St := { σ with T := setT (purgeT σ.lev dst σ.T) dst x, H := σ.H.alloc σ.lev dst o }
theorem Rel.alloc {E : Env} {σ : St} {a : Act} {w w' : World} {K K' : Kt} {d : Nat} {o' : AObj} {x : AVal} {v : Value} (h : Rel E σ a w K) (hd : okDst σ.n (some d) = true) (hch : Ch (fun _ => False) w w')
    (hK' : ∀ l' t', ¬ (l' = σ.lev ∧ t' = d) → K' l' t' = K l' t') (hown : ∀ b, o'.own K' σ.lev d b → w.heap.size ≤ b)
    (hob : Robj (badOf E.S0 K' (σ.H.alloc σ.lev d o')) K' w' σ.lev d o') (hbel : o'.bel (σ.lev + 1) = true)
    (hx : Rv (badOf E.S0 K' (σ.H.alloc σ.lev d o')) K' w' x v) (hb : x.bel (σ.lev + 1) = true) : Rel E (σ.alloc d o' x) (a.put (some d) v) w' K' := by
  have hk := Keeps.alloc h.hr hch hK' hown
  have hd' : d < a.tmps.size := by rw [h.size]; simpa [okDst] using hd
  refine ⟨by simp [Act.put, St.alloc, h.size], h.defs, fun t => ?_, fun t => ?_, h.hr.alloc hch hK' hown hob hbel⟩
  · simp only [St.alloc, Act.put, lk_setT, getD_setIfInBounds _ _ _ _ hd', lk_purgeT]
    by_cases e : d = t
    · simp only [e, if_true]; rw [e] at hx; exact hx
    · simp only [e, if_false]
      exact (h.tm t).purge hk (fun l t n z hn hz => by rw [hK' l t hn]; exact hz)
  · simp only [St.alloc, lk_setT, lk_purgeT]
    by_cases e : d = t
    · simp only [e, if_true]; exact hb
    · simp only [e, if_false]; exact AVal.bel_purge _ (h.tb t)
end Go.Fw
