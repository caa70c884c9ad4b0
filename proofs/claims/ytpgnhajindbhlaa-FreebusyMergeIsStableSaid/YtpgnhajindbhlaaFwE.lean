/- Operations on memory: objects made, read, written; slices that nobody writes any more. -/
import Derived.Test.YtpgnhajindbhlaaFwD
set_option autoImplicit false
namespace Go.Fw
/-! ### From an array of one's own to data -/
def frzV (σ : St) : AVal → Option (DVal × St)
  | .d x => some (x, σ)
  | .nils => some (.list [], σ)
  | .ref l t n =>
    match σ.H l t with
    | .arr _ xs => bif Nat.ble l σ.lev && Nat.beq n xs.length then some (.list xs, { σ with H := σ.H.set l t (.frz xs) }) else none
    | .frz xs => bif Nat.beq n xs.length then some (.list xs, σ) else none
    | _ => none
  | _ => none
/-- The same state but for frozen arrays. -/
structure Frz (E : Env) (w : World) (K : Kt) (σ σ' : St) : Prop where
  n : σ'.n = σ.n
  lev : σ'.lev = σ.lev
  T : σ'.T = σ.T
  keeps : Keeps (badOf E.S0 K σ.H) w (badOf E.S0 K σ'.H) w
  rel : ∀ a, Rel E σ a w K → Rel E σ' a w K
theorem Frz.refl {E : Env} {w : World} {K : Kt} (σ : St) : Frz E w K σ σ := ⟨rfl, rfl, rfl, Keeps.rfl', fun _ h => h⟩
theorem Frz.trans {E : Env} {w : World} {K : Kt} {σ1 σ2 σ3 : St} (h : Frz E w K σ1 σ2) (k : Frz E w K σ2 σ3) : Frz E w K σ1 σ3 :=
  ⟨k.n.trans h.n, k.lev.trans h.lev, k.T.trans h.T, h.keeps.trans k.keeps (Nat.le_refl _), fun a r => k.rel a (h.rel a r)⟩
theorem beq_eq {a b : Nat} (h : Nat.beq a b = true) : a = b := Nat.eq_of_beq_eq_true h
theorem Rd.nil {bad : Nat → Prop} {w : World} {a : Option Addr} {cap : Nat} : Rd bad w (.list []) (.slice a 0 cap) :=
  .list (xs := []) (sz := 0) (b := 0) (o := 0) (f := fun _ => default) (by simp) (Nat.zero_le _) (by simp) (by simp) (by simp) (by simp)
theorem Rd.of_arr {bad bad' : Nat → Prop} {w w' : World} {sz cap : Nat} {xs : List DVal} {a : Option Addr} (hs : ∀ x ∈ xs, x.cells.length = sz) (hc : xs.length ≤ cap) (h : ArrAt bad w w sz xs cap a) (hk : Keeps bad w bad' w')
    (hb : ∀ ad, a = some ad → ¬ bad' ad.block ∧ w'.heap[ad.block]? = w.heap[ad.block]?) : Rd bad' w' (.list xs) (.slice a xs.length cap) := by
  cases a with
  | none =>
    obtain ⟨rfl, _⟩ := h
    exact Rd.nil
  | some ad =>
    obtain ⟨hsp, vs, ty, fz, h1, h2, h3, h4⟩ := h
    obtain ⟨hb1, hb2⟩ := hb ad rfl
    have hg : ∀ j, j < (xs.flatMap DVal.cells).length → ∃ u, vs[ad.off + j]? = some u ∧ u.oneCell' = true ∧ Rd bad w (xs.flatMap DVal.cells)[j]! u := fun j hj => by
      have hgj : (xs.flatMap DVal.cells)[j]? = some (xs.flatMap DVal.cells)[j]! := by
        rw [List.getElem?_eq_getElem hj, List.getElem!_eq_getElem?_getD, List.getElem?_eq_getElem hj]; rfl
      exact h4 j _ hgj
    refine .list (sz := sz) (b := ad.block) (o := ad.off) (f := fun j => (vs[ad.off + j]?).getD default) hs hc (fun j hj => ⟨hb1, ?_⟩) (fun j hj => ?_) (fun j c hcj => ?_) (fun _ => by cases ad; simp_all)
    · obtain ⟨u, hu, _⟩ := hg j hj
      unfold World.cell?
      simp only [hb2, h1]
      simp [hu]
    · obtain ⟨u, hu, hu1, _⟩ := hg j hj
      simp [hu, hu1]
    · obtain ⟨u, hu, hu1, hu2⟩ := h4 j c hcj
      simp only [hu, Option.getD_some]
      exact hu2.mono hk
theorem frzV_ok {E : Env} {σ σ' : St} {a : Act} {w : World} {K : Kt} {x : AVal} {y : DVal} (h : Rel E σ a w K) (hf : frzV σ x = some (y, σ')) :
    Frz E w K σ σ' ∧ ∀ v, Rv (badOf E.S0 K σ.H) K w x v → Rd (badOf E.S0 K σ'.H) w y v := by
  cases x with
  | d z =>
    simp only [frzV, Option.some.injEq, Prod.mk.injEq] at hf
    obtain ⟨rfl, rfl⟩ := hf
    exact ⟨Frz.refl _, fun v hv => by cases hv; assumption⟩
  | nils =>
    simp only [frzV, Option.some.injEq, Prod.mk.injEq] at hf
    obtain ⟨rfl, rfl⟩ := hf
    exact ⟨Frz.refl _, fun v hv => by cases hv; exact Rd.nil⟩
  | ref l t n =>
    simp only [frzV] at hf
    have hob := h.hr.ob l t
    cases ho : σ.H l t with
    | arr sz xs =>
      rw [ho] at hf hob
      simp only at hf
      cases hc : (Nat.ble l σ.lev && Nat.beq n xs.length) with
      | false => rw [hc] at hf; cases hf
      | true =>
        rw [hc] at hf
        simp only [cond_true, Option.some.injEq, Prod.mk.injEq] at hf
        obtain ⟨rfl, rfl⟩ := hf
        simp only [Bool.and_eq_true] at hc
        obtain ⟨hc1, hc2⟩ := hc
        have hl : l ≤ σ.lev := Nat.le_of_ble_eq_true hc1
        obtain rfl := beq_eq hc2
        obtain ⟨hn, ad, cap, hK, hs, hcap, hat⟩ := hob
        have hkp : Keeps (badOf E.S0 K σ.H) w (badOf E.S0 K (σ.H.set l t (.frz xs))) w :=
          Keeps.write h.hr (Ch.refl _ w) (fun _ _ _ => rfl) (fun b hb => hb.elim)
        have hrd : Rd (badOf E.S0 K (σ.H.set l t (.frz xs))) w (.list xs) (.slice ad xs.length cap) := Rd.of_arr hs hcap hat hkp (fun ad' he => by
          subst he
          refine ⟨?_, rfl⟩
          have hown : (σ.H l t).own K l t ad'.block := by
            rw [ho]
            obtain ⟨h1, _⟩ := hat
            obtain ⟨b0, o0, s0⟩ := ad'
            simp only at h1
            subst h1
            exact ⟨o0, _, hK⟩
          rintro (e | ⟨l2, t2, e⟩)
          · exact h.hr.sep _ _ _ hown e
          · by_cases c : l2 = l ∧ t2 = t
            · obtain ⟨rfl, rfl⟩ := c
              rw [Hp.set_same] at e
              exact e
            · rw [Hp.set_ne c] at e
              exact c (h.hr.inj _ _ _ _ _ e hown))
        refine ⟨⟨rfl, rfl, rfl, hkp, fun a' h' => ?_⟩, fun v hv => ?_⟩
        · have hr' := h'.hr.write (l := l) (t := t) (o' := .frz xs) (Ch.refl _ w) (fun _ _ _ _ hz => hz) (fun _ _ _ => rfl) (fun b hb => hb.elim) ⟨ad, cap, sz, hK, hs, hrd⟩ rfl hl
          exact ⟨h'.size, h'.defs, fun j => (h'.tm j).mono hkp (fun _ _ _ _ hz => hz), h'.tb, hr'⟩
        · cases hv with
          | ref hk =>
            rw [hK] at hk
            simp only [Option.some.injEq, Prod.mk.injEq] at hk
            obtain ⟨rfl, rfl, _⟩ := hk
            exact hrd
    | frz xs =>
      rw [ho] at hf hob
      simp only at hf
      cases hc : Nat.beq n xs.length with
      | false => rw [hc] at hf; cases hf
      | true =>
        rw [hc] at hf
        simp only [cond_true, Option.some.injEq, Prod.mk.injEq] at hf
        obtain ⟨rfl, rfl⟩ := hf
        obtain rfl := beq_eq hc
        refine ⟨Frz.refl _, fun v hv => ?_⟩
        obtain ⟨ad, cap, sz, hK, _, hrd⟩ := hob
        cases hv with
        | ref hk =>
          rw [hK] at hk
          simp only [Option.some.injEq, Prod.mk.injEq] at hk
          obtain ⟨rfl, rfl, _⟩ := hk
          exact hrd
    | _ => rw [ho] at hf; cases hf
  | _ => simp [frzV] at hf
/-- Several values. -/
def frzL (σ : St) : List AVal → Option (List DVal × St)
  | [] => some ([], σ)
  | x :: r => (frzV σ x).bind fun p => (frzL p.2 r).map fun q => (p.1 :: q.1, q.2)
theorem frzL_ok {E : Env} {w : World} {K : Kt} {a : Act} : ∀ {xs : List AVal} {σ σ' : St} {ys : List DVal}, Rel E σ a w K → frzL σ xs = some (ys, σ') →
    Frz E w K σ σ' ∧ ys.length = xs.length ∧ ∀ (j : Nat) (x : AVal) (y : DVal) (v : Value), xs[j]? = some x → ys[j]? = some y → Rv (badOf E.S0 K σ.H) K w x v → Rd (badOf E.S0 K σ'.H) w y v
  | [], σ, σ', ys, h, hf => by
    simp only [frzL, Option.some.injEq, Prod.mk.injEq] at hf
    obtain ⟨rfl, rfl⟩ := hf
    exact ⟨Frz.refl _, rfl, by simp⟩
  | x :: r, σ, σ', ys, h, hf => by
    simp only [frzL] at hf
    obtain ⟨⟨y, σ1⟩, h1, hf⟩ := Option.bind_eq_some_iff.1 hf
    obtain ⟨⟨ys1, σ2⟩, h2, he⟩ := Option.map_eq_some_iff.1 hf
    simp only [Prod.mk.injEq] at he
    obtain ⟨rfl, rfl⟩ := he
    obtain ⟨f1, g1⟩ := frzV_ok h h1
    have hr1 := f1.rel a h
    obtain ⟨f2, hl, g2⟩ := frzL_ok hr1 h2
    refine ⟨f1.trans f2, by simp [hl], fun j x' y' v hx hy hv => ?_⟩
    cases j with
    | zero =>
      simp only [List.getElem?_cons_zero, Option.some.injEq] at hx hy
      subst hx hy
      exact (g1 v hv).mono f2.keeps
    | succ j =>
      simp only [List.getElem?_cons_succ] at hx hy
      exact g2 j x' y' v hx hy (hv.mono f1.keeps (fun _ _ _ _ hz => hz))

/-! ### New objects -/
def overK (K : Kt) (l t n : Nat) (z : Option Addr × Nat × Nat) : Kt := fun l' t' n' => bif l' == l && t' == t then (bif n' == n then some z else none) else K l' t' n'
theorem overK_ne {K : Kt} {l t n : Nat} {z : Option Addr × Nat × Nat} (l' t' : Nat) (h : ¬ (l' = l ∧ t' = t)) : overK K l t n z l' t' = K l' t' := by
  have : (l' == l && t' == t) = false := by simpa using h
  funext n'
  simp [overK, this]
theorem overK_at {K : Kt} {l t n : Nat} {z : Option Addr × Nat × Nat} (n' : Nat) : overK K l t n z l t n' = if n' = n then some z else none := by
  simp only [overK, BEq.rfl, Bool.and_self, cond_true]
  by_cases e : n' = n
  · simp [e]
  · have : (n' == n) = false := by simpa using e
    simp [this, e]
theorem Ch.alloc (w : World) (o : Obj) : Ch (fun _ => False) w (w.alloc o) :=
  ⟨rfl, rfl, rfl, by simp, Nat.le_refl _, fun b hb _ => RowKit.Below.heap_alloc w o b hb⟩
theorem heap_alloc_new (w : World) (o : Obj) : (w.alloc o).heap[w.heap.size]? = some o := by
  show (w.heap.push o)[w.heap.size]? = _
  simp
/-- A box is made: its cells are told abstractly. -/
theorem Rel.box {E : Env} {σ : St} {a : Act} {w : World} {K : Kt} {d : Nat} {cs : List AVal} {vs : List Value} {ty : TypeId} (h : Rel E σ a w K) (hd : okDst σ.n (some d) = true) (hl : vs.length = cs.length)
    (h1 : ∀ (j : Nat) (x : Value), vs[j]? = some x → x.oneCell' = true) (hr : ∀ (j : Nat) (c : AVal) (x : Value), cs[j]? = some c → vs[j]? = some x → Rv (badOf E.S0 K σ.H) K w c x) (hb : AVal.belL (σ.lev + 1) cs = true) :
    ∃ K', Rel E (σ.alloc d (.box (AVal.purgeL σ.lev d cs)) (.ptr σ.lev d 0)) (a.put (some d) (.pointer (some ⟨w.heap.size, 0, none⟩))) (w.alloc (.cells ⟨vs⟩ ty)) K' := by
  let z : Option Addr × Nat × Nat := (some ⟨w.heap.size, 0, none⟩, 0, 0)
  have hK' : ∀ l' t', ¬ (l' = σ.lev ∧ t' = d) → overK K σ.lev d 0 z l' t' = K l' t' := fun l' t' hn => overK_ne l' t' hn
  have hown : ∀ b, (AObj.box (AVal.purgeL σ.lev d cs)).own (overK K σ.lev d 0 z) σ.lev d b → w.heap.size ≤ b := fun b hb' => by
    obtain ⟨z', hz⟩ := hb'
    rw [overK_at] at hz
    simp only [if_true, Option.some.injEq, Prod.mk.injEq, Addr.mk.injEq, z] at hz
    omega
  have hkp := Keeps.alloc (o' := .box (AVal.purgeL σ.lev d cs)) h.hr (Ch.alloc w (.cells ⟨vs⟩ ty)) hK' hown
  refine ⟨overK K σ.lev d 0 z, h.alloc hd (Ch.alloc w _) hK' hown ?_ ?_ (.ptr (b := w.heap.size) (by rw [overK_at]; rfl)) ?_⟩
  · refine ⟨fun n hn => by rw [overK_at, if_neg (by omega)], w.heap.size, vs, ty, (0, 0), by rw [overK_at]; rfl, heap_alloc_new w _, by rw [AVal.purgeL_eq]; simpa using hl, h1, fun j c x hc hx => ?_⟩
    rw [AVal.purgeL_eq, List.getElem?_map] at hc
    obtain ⟨c0, hc0, rfl⟩ := Option.map_eq_some_iff.1 hc
    exact (hr j c0 x hc0 hx).purge hkp (fun l t n z hn hz => by rw [hK' l t hn]; exact hz)
  · exact AVal.belL_purge _ hb
  · simp [AVal.bel, Nat.blt_eq]
/-- An array is made, with room. -/
theorem Rel.arr {E : Env} {σ : St} {a : Act} {w w' : World} {K : Kt} {d : Nat} {sz : Nat} {xs : List DVal} {ad : Option Addr} {cap : Nat} (h : Rel E σ a w K) (hd : okDst σ.n (some d) = true) (hch : Ch (fun _ => False) w w')
    (hs : ∀ x ∈ xs, x.cells.length = sz) (hc : xs.length ≤ cap) (hat : ArrAt (badOf E.S0 K σ.H) w w' sz xs cap ad) (hnew : ∀ b, ad = some b → w.heap.size ≤ b.block) :
    ∃ K', Rel E (σ.alloc d (.arr sz xs) (.ref σ.lev d xs.length)) (a.put (some d) (.slice ad xs.length cap)) w' K' := by
  let z : Option Addr × Nat × Nat := (ad, cap, sz)
  have hK' : ∀ l' t', ¬ (l' = σ.lev ∧ t' = d) → overK K σ.lev d xs.length z l' t' = K l' t' := fun l' t' hn => overK_ne l' t' hn
  have hown : ∀ b, (AObj.arr sz xs).own (overK K σ.lev d xs.length z) σ.lev d b → w.heap.size ≤ b := fun b hb' => by
    obtain ⟨o, z', hz⟩ := hb'
    rw [overK_at] at hz
    simp only [if_true, Option.some.injEq, Prod.mk.injEq, z] at hz
    exact hnew _ hz.1
  have hkp := Keeps.alloc (o' := .arr sz xs) h.hr hch hK' hown
  refine ⟨overK K σ.lev d xs.length z, h.alloc hd hch hK' hown ?_ rfl (.ref (by rw [overK_at, if_pos rfl])) ?_⟩
  · refine ⟨fun n hn => by rw [overK_at, if_neg (by omega)], ad, cap, by rw [overK_at, if_pos rfl], hs, hc, ?_⟩
    cases ad with
    | none => exact hat
    | some b =>
      obtain ⟨h1, vs, ty, fz, h2, h3, h4, h5⟩ := hat
      refine ⟨h1, vs, ty, fz, h2, h3, h4, fun j c hcj => ?_⟩
      obtain ⟨u, hu, hu1, hu2⟩ := h5 j c hcj
      exact ⟨u, hu, hu1, hu2.mono hkp⟩
  · simp [AVal.bel, Nat.blt_eq]
/-- The same for an array that somebody else has made: its elements are told behind it. -/
theorem Rel.arr2 {E : Env} {σ : St} {a : Act} {w w' : World} {K : Kt} {d : Nat} {sz : Nat} {xs : List DVal} {ad : Option Addr} {cap : Nat} (h : Rel E σ a w K) (hd : okDst σ.n (some d) = true) (hch : Ch (fun _ => False) w w')
    (hs : ∀ x ∈ xs, x.cells.length = sz) (hc : xs.length ≤ cap) (hat : ArrAt (fun b => badOf E.S0 K σ.H b ∨ ∃ x, ad = some x ∧ b = x.block) w' w' sz xs cap ad) (hnew : ∀ b, ad = some b → w.heap.size ≤ b.block) :
    ∃ K', Rel E (σ.alloc d (.arr sz xs) (.ref σ.lev d xs.length)) (a.put (some d) (.slice ad xs.length cap)) w' K' := by
  let z : Option Addr × Nat × Nat := (ad, cap, sz)
  have hK' : ∀ l' t', ¬ (l' = σ.lev ∧ t' = d) → overK K σ.lev d xs.length z l' t' = K l' t' := fun l' t' hn => overK_ne l' t' hn
  have hown2 : ∀ b, (AObj.arr sz xs).own (overK K σ.lev d xs.length z) σ.lev d b → ∃ x, ad = some x ∧ b = x.block := fun b hb' => by
    obtain ⟨o, z', hz⟩ := hb'
    rw [overK_at] at hz
    simp only [if_true, Option.some.injEq, Prod.mk.injEq, z] at hz
    exact ⟨_, hz.1, rfl⟩
  have hown : ∀ b, (AObj.arr sz xs).own (overK K σ.lev d xs.length z) σ.lev d b → w.heap.size ≤ b := fun b hb' => by
    obtain ⟨x, hx, rfl⟩ := hown2 b hb'
    exact hnew _ hx
  have hkp : Keeps (fun b => badOf E.S0 K σ.H b ∨ ∃ x, ad = some x ∧ b = x.block) w' (badOf E.S0 (overK K σ.lev d xs.length z) (σ.H.alloc σ.lev d (.arr sz xs))) w' := by
    intro b hb hbad
    refine ⟨?_, rfl⟩
    rintro (e | ⟨l2, t2, e⟩)
    · exact hbad (.inl (.inl e))
    · by_cases c : l2 = σ.lev ∧ t2 = d
      · obtain ⟨rfl, rfl⟩ := c
        rw [Hp.alloc_same] at e
        exact hbad (.inr (hown2 b e))
      · rw [h.hr.alloc_at l2 t2 c, AObj.own_purge, AObj.own_congr (hK' l2 t2 c)] at e
        exact hbad (.inl (.inr ⟨_, _, e⟩))
  refine ⟨overK K σ.lev d xs.length z, h.alloc hd hch hK' hown ?_ rfl (.ref (by rw [overK_at, if_pos rfl])) ?_⟩
  · refine ⟨fun n hn => by rw [overK_at, if_neg (by omega)], ad, cap, by rw [overK_at, if_pos rfl], hs, hc, ?_⟩
    cases ad with
    | none => exact hat
    | some b =>
      obtain ⟨h1, vs, ty, fz, h2, h3, h4, h5⟩ := hat
      refine ⟨h1, vs, ty, fz, h2, h3, h4, fun j c hcj => ?_⟩
      obtain ⟨u, hu, hu1, hu2⟩ := h5 j c hcj
      exact ⟨u, hu, hu1, hu2.mono hkp⟩
  · simp [AVal.bel, Nat.blt_eq]
end Go.Fw
