/- The framework and the contracts of this claim, part 2 of 5. -/
import Derived.Test.YtpgnhajindbhlaaG1
/- Bodies: the rules for code; how a function is entered and left. -/
set_option autoImplicit false
namespace Go.Fw
/-- From the state σ on, the code c ends as Q says. -/
def awp (P : Program) (c : Code) (Q : Exit → St → Prop) (σ : St) : Prop :=
  ∀ (E : Env) (a : Act) (w : World) (K : Kt), Rel E σ a w K → c.wp P (fun e a' w' => ∃ σ' K', Q e σ' ∧ Rel E σ' a' w' K') a w
section
variable {P : Program} {Q : Exit → St → Prop} {σ : St}
theorem awp_mono {c : Code} {Q' : Exit → St → Prop} (h : awp P c Q σ) (hq : ∀ e σ', Q e σ' → Q' e σ') : awp P c Q' σ :=
  fun E a w K hR => wp_mono (h E a w K hR) fun e a' w' ⟨σ', K', h1, h2⟩ => ⟨σ', K', hq e σ' h1, h2⟩
def AThen (next : St → Prop) (Q : Exit → St → Prop) : Exit → St → Prop
  | .normal, σ => next σ
  | e, σ => Q e σ
theorem awp_skip (h : Q .normal σ) : awp P .skip Q σ := fun _ _ _ K hR => wp_skip ⟨σ, K, h, hR⟩
theorem awp_exit {id : Nat} (h : Q (.exit id) σ) : awp P (.exit id) Q σ := fun _ _ _ K hR => wp_exit ⟨σ, K, h, hR⟩
theorem awp_ret (h : Q .ret σ) : awp P .ret Q σ := fun _ _ _ K hR => wp_ret ⟨σ, K, h, hR⟩
theorem awp_seq {x y : Code} (h : awp P x (AThen (awp P y Q) Q) σ) : awp P (.seq x y) Q σ := by
  intro E a w K hR
  refine wp_seq (wp_mono (h E a w K hR) ?_)
  rintro e a' w' ⟨σ', K', h1, h2⟩
  cases e with
  | normal => exact h1 E a' w' K' h2
  | _ => exact ⟨σ', K', h1, h2⟩
/-- The rest of the code behind a letter. -/
theorem awp_seq_k {x y : Code} (h : ∀ N : St → Prop, (∀ σ, awp P y Q σ → N σ) → awp P x (AThen N Q) σ) : awp P (.seq x y) Q σ := awp_seq (h _ fun _ h => h)
theorem awp_cond {c : Operand} {x y : Code} {b : Bool} (hc : boolOf (evO σ c) = some b) (ht : b = true → awp P x Q σ) (hf : b = false → awp P y Q σ) : awp P (.cond c x y) Q σ := by
  intro E a w K hR
  have e := boolOf_eq hc (hR.ev c)
  cases b with
  | true => exact wp_cond_true e (ht rfl E a w K hR)
  | false => exact wp_cond_false e (hf rfl E a w K hR)
def ABlock (id : Nat) (Q : Exit → St → Prop) : Exit → St → Prop
  | .exit id', σ => if id' = id then Q .normal σ else Q (.exit id') σ
  | e, σ => Q e σ
theorem awp_block {id : Nat} {c : Code} (h : awp P c (ABlock id Q) σ) : awp P (.block id c) Q σ := by
  intro E a w K hR
  refine wp_block (wp_mono (h E a w K hR) ?_)
  rintro e a' w' ⟨σ', K', h1, h2⟩
  cases e with
  | exit id' =>
    simp only [ABlock] at h1
    simp only [Exit.inBlock]
    by_cases e : id' = id
    · rw [if_pos e] at h1 ⊢; exact ⟨σ', K', h1, h2⟩
    · rw [if_neg e] at h1 ⊢; exact ⟨σ', K', h1, h2⟩
  | _ => exact ⟨σ', K', h1, h2⟩
theorem awp_region {id : Nat} {ops : Array Oper} (h : aOps P ops (Q .normal) (List.range ops.size) σ) : awp P (.region id ops false) Q σ := by
  intro E a w K hR
  exact wp_region (aOps_sound (N := Q .normal) (fun σ' a' w' K' h1 h2 => ⟨σ', K', h1, h2⟩) _ σ a w K h hR)
theorem awp_loop {c : Code} (I : St → Prop) (μ : St → Nat) (h0 : I σ) (round : ∀ σ, I σ → awp P c (AThen (fun σ' => I σ' ∧ μ σ' < μ σ) Q) σ) : awp P (.loop c) Q σ := by
  intro E a w K hR b k cs
  have key : ∀ n σ, μ σ = n → I σ → ∀ a w K, Rel E σ a w K →
      ∃ e a' w', (∃ σ' K', Q e σ' ∧ Rel E σ' a' w' K') ∧ Arrives P (lone (b.at a (.code c :: .inLoop c :: k)) cs w) b k cs e a' w' := by
    intro n
    induction n using Nat.strongRecOn with
    | _ n ih =>
      intro σ hn hI a w K hR
      obtain ⟨e, a1, w1, ⟨σ1, K1, hq, hR1⟩, harr⟩ := round σ hI E a w K hR b (.inLoop c :: k) cs
      cases e with
      | normal =>
        obtain ⟨hI1, hlt⟩ := hq
        obtain ⟨e2, a2, w2, hq2, harr2⟩ := ih (μ σ1) (hn ▸ hlt) σ1 rfl hI1 a1 w1 K1 hR1
        exact ⟨e2, a2, w2, hq2, .of_steps (Steps.trans harr (.one step_inLoop)) harr2⟩
      | exit id => exact ⟨_, a1, w1, ⟨σ1, K1, hq, hR1⟩, .pass (x := .inLoop c) rfl (fun _ _ => .inl (by simp)) harr⟩
      | goto l => exact ⟨_, a1, w1, ⟨σ1, K1, hq, hR1⟩, .pass (x := .inLoop c) rfl (fun _ _ => .inl (by simp)) harr⟩
      | ret => exact ⟨_, a1, w1, ⟨σ1, K1, hq, hR1⟩, .pass (x := .inLoop c) rfl (fun _ _ => .inl (by simp)) harr⟩
      | panic ch => exact ⟨_, a1, w1, ⟨σ1, K1, hq, hR1⟩, .pass (x := .inLoop c) rfl (fun _ _ => .inl (by simp)) harr⟩
      | outgrown => exact ⟨_, a1, w1, ⟨σ1, K1, hq, hR1⟩, .pass (x := .inLoop c) rfl (fun _ _ => .inl (by simp)) harr⟩
  obtain ⟨e, a', w', hq, harr⟩ := key _ σ rfl h0 a w K hR
  exact ⟨e, a', w', hq, .of_steps (.one step_loop) harr⟩

/-! ### Forgetting -/
/-- The state with nothing but some temporaries and some objects of its own. -/
def keepT (T : List (Nat × AVal)) : List Nat → List (Nat × AVal)
  | [] => []
  | t :: r => (t, lk T t) :: keepT T r
def inL : List Nat → Nat → Bool
  | [], _ => false
  | x :: r, t => bif Nat.beq x t then true else inL r t
def Hp.keep (H : Hp) (lev : Nat) (ls : List Nat) : Hp := fun l t => bif l == lev then (bif inL ls t then H l t else .dead) else H l t
def St.keep (σ : St) (ts ls : List Nat) : St := { σ with T := keepT σ.T ts, H := σ.H.keep σ.lev ls }
theorem lk_keepT (T : List (Nat × AVal)) : ∀ (ts : List Nat) (t : Nat), lk (keepT T ts) t = .any ∨ lk (keepT T ts) t = lk T t
  | [], t => .inl rfl
  | x :: r, t => by
    simp only [keepT, lk]
    cases h : Nat.beq x t with
    | true => right; rw [beq_eq h]; rfl
    | false => simpa using lk_keepT T r t
/-- Objects dropped. -/
theorem HRel.drop {E : Env} {lev : Nat} {H H' : Hp} {w : World} {K : Kt} (h : HRel E lev H w K) (hd : ∀ l t, H' l t = H l t ∨ H' l t = .dead) : HRel E lev H' w K ∧ Keeps (badOf E.S0 K H) w (badOf E.S0 K H') w := by
  have hown : ∀ l t b, (H' l t).own K l t b → (H l t).own K l t b := fun l t b hb => by
    rcases hd l t with e | e
    · rwa [e] at hb
    · rw [e] at hb; exact hb.elim
  have hk : Keeps (badOf E.S0 K H) w (badOf E.S0 K H') w := fun b hb hn => ⟨fun e => hn (by
    rcases e with e | ⟨l, t, e⟩
    · exact .inl e
    · exact .inr ⟨l, t, hown l t b e⟩), rfl⟩
  refine ⟨⟨fun l t => ?_, fun l t l' t' b h1 h2 => h.inj l t l' t' b (hown _ _ _ h1) (hown _ _ _ h2), fun l t b hb => h.sep l t b (hown _ _ _ hb), h.low, h.ext, fun l t b hb => h.new l t b (hown _ _ _ hb), fun l t hl => ?_, fun l t => ?_, h.kp.trans hk h.ext.size, h.k0⟩, hk⟩
  · rcases hd l t with e | e
    · rw [e]; exact (h.ob l t).mono hk (fun _ _ _ _ hz => hz) rfl (fun _ _ => rfl)
    · rw [e]; trivial
  · rcases hd l t with e | e
    · rw [e]; exact h.top l t hl
    · exact e
  · rcases hd l t with e | e
    · rw [e]; exact h.hb l t
    · rw [e]; rfl
theorem Hp.keep_or (H : Hp) (lev : Nat) (ls : List Nat) (l t : Nat) : H.keep lev ls l t = H l t ∨ H.keep lev ls l t = .dead := by
  unfold Hp.keep
  cases l == lev
  · exact .inl rfl
  · cases inL ls t
    · exact .inr rfl
    · exact .inl rfl
theorem Rel.keep {E : Env} {σ : St} {a : Act} {w : World} {K : Kt} (h : Rel E σ a w K) (ts ls : List Nat) : Rel E (σ.keep ts ls) a w K := by
  obtain ⟨h1, h2⟩ := h.hr.drop (Hp.keep_or σ.H σ.lev ls)
  refine ⟨h.size, h.defs, fun t => ?_, fun t => ?_, h1⟩
  · simp only [St.keep]
    rcases lk_keepT σ.T ts t with e | e
    · rw [e]; exact .any
    · rw [e]; exact (h.tm t).mono h2 (fun _ _ _ _ hz => hz)
  · simp only [St.keep]
    rcases lk_keepT σ.T ts t with e | e
    · rw [e]; rfl
    · rw [e]; exact h.tb t
theorem awp_keep {P : Program} {c : Code} {Q : Exit → St → Prop} {σ : St} (ts ls : List Nat) (h : awp P c Q (σ.keep ts ls)) : awp P c Q σ := fun E a w K hR => h E a w K (hR.keep ts ls)
/-- A loop whose head's states are told by a family. -/
theorem awp_loopF {P : Program} {c : Code} {Q : Exit → St → Prop} {σ : St} {ι : Type} (ts ls : List Nat) (I : ι → St) (G : ι → Prop) (μ : ι → Nat) (i0 : ι) (hG : G i0) (h0 : σ.keep ts ls = I i0)
    (round : ∀ i, G i → awp P c (AThen (fun σ' => ∃ j, G j ∧ σ'.keep ts ls = I j ∧ μ j < μ i) Q) (I i)) : awp P (.loop c) Q σ := by
  intro E a w K hR b k cs
  have key : ∀ n i, μ i = n → G i → ∀ a w K, Rel E (I i) a w K →
      ∃ e a' w', (∃ σ' K', Q e σ' ∧ Rel E σ' a' w' K') ∧ Arrives P (lone (b.at a (.code c :: .inLoop c :: k)) cs w) b k cs e a' w' := by
    intro n
    induction n using Nat.strongRecOn with
    | _ n ih =>
      intro i hn hi a w K hR
      obtain ⟨e, a1, w1, ⟨σ1, K1, hq, hR1⟩, harr⟩ := round i hi E a w K hR b (.inLoop c :: k) cs
      cases e with
      | normal =>
        obtain ⟨j, hj, hs, hlt⟩ := hq
        have hR2 := hR1.keep ts ls
        rw [hs] at hR2
        obtain ⟨e2, a2, w2, hq2, harr2⟩ := ih (μ j) (hn ▸ hlt) j rfl hj a1 w1 K1 hR2
        exact ⟨e2, a2, w2, hq2, .of_steps (Steps.trans harr (.one step_inLoop)) harr2⟩
      | exit id => exact ⟨_, a1, w1, ⟨σ1, K1, hq, hR1⟩, .pass (x := .inLoop c) rfl (fun _ _ => .inl (by simp)) harr⟩
      | goto l => exact ⟨_, a1, w1, ⟨σ1, K1, hq, hR1⟩, .pass (x := .inLoop c) rfl (fun _ _ => .inl (by simp)) harr⟩
      | ret => exact ⟨_, a1, w1, ⟨σ1, K1, hq, hR1⟩, .pass (x := .inLoop c) rfl (fun _ _ => .inl (by simp)) harr⟩
      | panic ch => exact ⟨_, a1, w1, ⟨σ1, K1, hq, hR1⟩, .pass (x := .inLoop c) rfl (fun _ _ => .inl (by simp)) harr⟩
      | outgrown => exact ⟨_, a1, w1, ⟨σ1, K1, hq, hR1⟩, .pass (x := .inLoop c) rfl (fun _ _ => .inl (by simp)) harr⟩
  have hR0 := hR.keep ts ls
  rw [h0] at hR0
  obtain ⟨e, a', w', hq, harr⟩ := key _ i0 rfl hG a w K hR0
  exact ⟨e, a', w', hq, .of_steps (.one step_loop) harr⟩
end

/-! ### Functions -/
theorem ldBox_ok {P : Program} {E : Env} {σ σ1 : St} {a : Act} {w : World} {K : Kt} {l t off b n : Nat} {ty : TypeId} {g : Bool} {cs : List AVal} {y : AVal} {z : Nat × Nat} (hR : Rel E σ a w K) (hk : K l t 0 = some (some ⟨b, 0, none⟩, z)) (hO : σ.H l t = .box cs)
    (hn : szOf P ty = some n) (hg : aggOf P ty = some g) (h1 : ldCells g n σ (cs.drop off) = some (y, σ1)) :
    Frz E w K σ σ1 ∧ ∃ v, (loadVar ty ⟨b, off, none⟩).run P w = .ok v w ∧ Rv (badOf E.S0 K σ1.H) K w y v := by
  have hob := hR.hr.ob l t
  rw [hO] at hob
  obtain ⟨_, b', vs, ty', z', hK, hheap, hl, hone, hrel⟩ := hob
  rw [hk] at hK
  simp only [Option.some.injEq, Prod.mk.injEq, Addr.mk.injEq] at hK
  obtain ⟨⟨rfl, _⟩, _⟩ := hK
  have hp : P2 (Rv (badOf E.S0 K σ.H) K w) (cs.drop off) (vs.drop off) := P2.drop ⟨hl, hrel⟩ off
  have hcell : ∀ (j : Nat) (u : Value), (vs.drop off)[j]? = some u → w.cell? ⟨b, off + j, none⟩ = some u := fun j u hu => by
    rw [List.getElem?_drop] at hu
    simp [World.cell?, hheap, hu]
  have hone' : ∀ (j : Nat) (u : Value), (vs.drop off)[j]? = some u → u.oneCell' = true := fun j u hu => by
    rw [List.getElem?_drop] at hu
    exact hone _ u hu
  cases g with
  | true =>
    simp only [ldCells, cond_true] at h1
    cases hb : Nat.ble n (cs.drop off).length with
    | false => rw [hb] at h1; cases h1
    | true =>
      rw [hb] at h1
      simp only [cond_true] at h1
      obtain ⟨⟨ds, σ2⟩, h2, he⟩ := Option.map_eq_some_iff.1 h1
      simp only [Prod.mk.injEq] at he
      obtain ⟨rfl, rfl⟩ := he
      obtain ⟨hfz, hlen, hrd⟩ := frzL_ok hR h2
      have hle := Nat.le_of_ble_eq_true hb
      have hp2 := hp.take n
      have hrun := run_loadVar (w := w) (b := b) (o := off) (vs := (vs.drop off).take n) hn hg (fun _ => by rw [hp2.1]; simp only [List.length_take]; omega) (fun h => by cases h) (fun j u hu => by
        rw [List.getElem?_take] at hu
        split at hu
        · exact hcell j u hu
        · cases hu)
      refine ⟨hfz, _, hrun, .d (Rd.agg (vs := (vs.drop off).take n) (by rw [hp2.1, hlen]) ?_ ?_)⟩
      · intro j u hu
        rw [List.getElem?_take] at hu
        split at hu
        · exact hone' j u hu
        · cases hu
      · intro j c u hc hu
        have hj : j < ((cs.drop off).take n).length := by rw [← hlen]; exact (List.getElem?_eq_some_iff.1 hc).1
        exact hrd j _ c u (List.getElem?_eq_getElem hj) hc (hp2.2 j _ u (List.getElem?_eq_getElem hj) hu)
  | false =>
    simp only [ldCells, cond_false] at h1
    cases hcs : cs.drop off with
    | nil => rw [hcs] at h1; cases h1
    | cons c r =>
      rw [hcs] at h1 hp
      simp only [List.head?_cons, Option.map_some, Option.some.injEq, Prod.mk.injEq] at h1
      obtain ⟨rfl, rfl⟩ := h1
      cases hvs : vs.drop off with
      | nil => rw [hvs] at hp; have := hp.1; simp at this
      | cons u us =>
        rw [hvs] at hp hcell
        have hrun := run_loadVar (w := w) (b := b) (o := off) (vs := [u]) hn hg (fun h => by cases h) (fun _ => rfl) (fun j z hz => by
          cases j with
          | zero => exact hcell 0 z (by simpa using hz)
          | succ j => simp at hz)
        exact ⟨Frz.refl _, u, hrun, hp.2 0 c u rfl rfl⟩
def resV (P : Program) (σ : St) : List ResultVar → Option (List DVal × St)
  | [] => some ([], σ)
  | .tmp t :: r => (frzV σ (lk σ.T t)).bind fun p => (resV P p.2 r).map fun q => (p.1 :: q.1, q.2)
  | .cell a ty :: r =>
    match lk σ.T a with
    | .ptr l t off =>
      match σ.H l t with
      | .box cs => (szOf P ty).bind fun n => (aggOf P ty).bind fun g => (ldCells g n σ (cs.drop off)).bind fun y => (frzV y.2 y.1).bind fun p => (resV P p.2 r).map fun q => (p.1 :: q.1, q.2)
      | _ => none
    | _ => none
def resOne (tmps : Array Value) : ResultVar → Sem Value
  | .tmp t => pure (tmps.getD t undef)
  | .cell a t => do loadVar t (← asAddr (tmps.getD a undef))
theorem resV_ok {P : Program} {E : Env} {a : Act} {w : World} {K : Kt} : ∀ {rs : List ResultVar} {σ σ' : St} {ds : List DVal}, Rel E σ a w K → resV P σ rs = some (ds, σ') →
    Frz E w K σ σ' ∧ ∃ vs, (rs.mapM (resOne a.tmps)).run P w = .ok vs w ∧ P2 (Rd (badOf E.S0 K σ'.H) w) ds vs
  | [], σ, σ', ds, hR, h => by
    simp only [resV, Option.some.injEq, Prod.mk.injEq] at h
    obtain ⟨rfl, rfl⟩ := h
    exact ⟨Frz.refl _, [], rfl, rfl, by simp⟩
  | .tmp t :: r, σ, σ', ds, hR, h => by
    simp only [resV] at h
    obtain ⟨⟨y, σ1⟩, h1, h⟩ := Option.bind_eq_some_iff.1 h
    obtain ⟨⟨ys, σ2⟩, h2, he⟩ := Option.map_eq_some_iff.1 h
    simp only [Prod.mk.injEq] at he
    obtain ⟨rfl, rfl⟩ := he
    obtain ⟨F1, G1⟩ := frzV_ok hR h1
    obtain ⟨F2, vs, hrun, hp⟩ := resV_ok (F1.rel a hR) h2
    refine ⟨F1.trans F2, a.tmps.getD t undef :: vs, ?_, ?_⟩
    · simp [List.mapM_cons, resOne, hrun]
    · refine ⟨by simp [hp.1], fun j c x hc hx => ?_⟩
      cases j with
      | zero =>
        simp only [List.getElem?_cons_zero, Option.some.injEq] at hc hx
        subst hc hx
        exact (G1 _ (hR.tm t)).mono F2.keeps
      | succ j => exact hp.2 j c x (by simpa using hc) (by simpa using hx)
  | .cell ad ty :: r, σ, σ', ds, hR, h => by
    simp only [resV] at h
    have hx := hR.tm ad
    generalize hv : a.tmps.getD ad undef = v at hx
    generalize lk σ.T ad = q at hx h
    cases hx with
    | ptr hk =>
      rename_i l t off b cap sz
      simp only at h
      cases hO : σ.H l t with
      | box cs =>
        rw [hO] at h
        simp only at h
        obtain ⟨n, hn, h⟩ := Option.bind_eq_some_iff.1 h
        obtain ⟨g, hg, h⟩ := Option.bind_eq_some_iff.1 h
        obtain ⟨⟨y, σ1⟩, h1, h⟩ := Option.bind_eq_some_iff.1 h
        obtain ⟨⟨d, σ2⟩, h2, h⟩ := Option.bind_eq_some_iff.1 h
        obtain ⟨⟨ys, σ3⟩, h3, he⟩ := Option.map_eq_some_iff.1 h
        simp only [Prod.mk.injEq] at he
        obtain ⟨rfl, rfl⟩ := he
        obtain ⟨F1, v, hrun1, hrv⟩ := ldBox_ok hR hk hO hn hg h1
        have hR1 := F1.rel a hR
        obtain ⟨F2, G2⟩ := frzV_ok hR1 h2
        have hR2 := F2.rel a hR1
        obtain ⟨F3, vs, hrun, hp⟩ := resV_ok hR2 h3
        refine ⟨(F1.trans F2).trans F3, v :: vs, ?_, ?_⟩
        · simp [List.mapM_cons, resOne, hv, asAddr, hrun1, hrun]
        · refine ⟨by simp [hp.1], fun j c x hc hx => ?_⟩
          cases j with
          | zero =>
            simp only [List.getElem?_cons_zero, Option.some.injEq] at hc hx
            subst hc hx
            exact (G2 _ hrv).mono F3.keeps
          | succ j => exact hp.2 j c x (by simpa using hc) (by simpa using hx)
      | _ => rw [hO] at h; cases h
    | _ => cases h
def retVal : List DVal → AVal
  | [x] => .d x
  | xs => .tup (xs.map .d)
def argT : Nat → List AVal → List (Nat × AVal)
  | _, [] => []
  | k, x :: r => (k, x) :: argT (k + 1) r
theorem lk_argT : ∀ (xs : List AVal) (k t : Nat), lk (argT k xs) t = if k ≤ t then (xs[t - k]?).getD .any else .any
  | [], k, t => by simp [argT, lk]
  | x :: r, k, t => by
    rw [argT, lk_cons, lk_argT r (k + 1) t]
    by_cases e : k = t
    · subst e; simp
    · rw [if_neg e]
      by_cases e2 : k + 1 ≤ t
      · rw [if_pos e2, if_pos (by omega), show t - k = (t - (k + 1)) + 1 by omega, List.getElem?_cons_succ]
      · rw [if_neg e2, if_neg (by omega)]
def entry (n lev : Nat) (args : List AVal) (H : Hp) : St := { n := n, lev := lev, T := argT 0 args, H := H }
/-- What the end of a body hands back. -/
def aRes (lev : Nat) (Q : AVal → Hp → Prop) : Option (List DVal × St) → Prop
  | some p => Q (retVal p.1) (fun l t => bif Nat.blt l lev then p.2.H l t else .dead)
  | none => False
def Ends (P : Program) (fn : Func) (lev : Nat) (Q : AVal → Hp → Prop) : Exit → St → Prop
  | .normal, σ => σ.lev = lev ∧ aRes lev Q (resV P σ fn.results.toList)
  | .ret, σ => σ.lev = lev ∧ aRes lev Q (resV P σ fn.results.toList)
  | _, _ => False
theorem acalls_of_awp {P : Program} {f : FuncId} {fn : Func} {c : Code} {args : List AVal} {lev : Nat} {H : Hp} {Q : AVal → Hp → Prop} (hf : P.funcs[f]? = some fn) (hb : fn.body = some c) (hn : hasBody P f = true) (hl : args.length ≤ fn.ntmps)
    (h : awp P c (Ends P fn lev Q) (entry fn.ntmps lev args H)) : ACalls P f args lev H Q := by
  refine ⟨hn, fun S0 w K vs hp hbel hdead hH => ?_⟩
  have hvl : vs.length = args.length := hp.1
  have hR : Rel ⟨S0, ownsIn K H, badOf S0 K H, K, w⟩ (entry fn.ntmps lev args H) { tmps := (⟨vs⟩ : Array Value) ++ Array.replicate (fn.ntmps - (⟨vs⟩ : Array Value).size) undef, defers := [] } w K := by
    refine ⟨?_, rfl, fun t => ?_, fun t => ?_, hH⟩
    · simp only [entry, Array.size_append, Array.size_replicate]
      have : (⟨vs⟩ : Array Value).size = vs.length := rfl
      omega
    · simp only [entry, lk_argT, Nat.zero_le, if_true, Nat.sub_zero]
      cases ha : args[t]? with
      | none => exact .any
      | some x =>
        simp only [Option.getD_some]
        have hlt : t < vs.length := by rw [hvl]; exact (List.getElem?_eq_some_iff.1 ha).1
        have e : ((⟨vs⟩ : Array Value) ++ Array.replicate (fn.ntmps - (⟨vs⟩ : Array Value).size) undef).getD t undef = vs[t] := by
          rw [Array.getD_eq_getD_getElem?, Array.getElem?_append_left (by simpa using hlt)]
          simp [hlt]
        rw [e]
        exact hp.2 t x _ ha (List.getElem?_eq_getElem hlt)
    · simp only [entry, lk_argT, Nat.zero_le, if_true, Nat.sub_zero]
      cases ha : args[t]? with
      | none => rfl
      | some x => exact AVal.bel_mono (Nat.le_succ _) _ ((AVal.belL_iff _ _).1 hbel x (List.mem_of_getElem? ha))
  refine calls_of_wp hf hb (wp_mono (h _ _ w K hR) ?_)
  rintro e a' w' ⟨σ', K', hq, hR'⟩
  have key : (∃ ds σ'', σ'.lev = lev ∧ resV P σ' fn.results.toList = some (ds, σ'') ∧ Q (retVal ds) (fun l t => bif Nat.blt l lev then σ''.H l t else .dead)) →
      a'.defers = [] ∧ ∃ v, (results fn a'.tmps).run P w' = .ok v w' ∧ ∃ v' r H' K', Ending.returned v = .returned v' ∧ Q r H' ∧ HRel ⟨S0, ownsIn K H, badOf S0 K H, K, w⟩ lev H' w' K' ∧ (∀ l t, lev ≤ l → H' l t = .dead) ∧ Rv (badOf S0 K' H') K' w' r v' ∧ r.bel lev = true := by
    rintro ⟨ds, σ'', hlev, hres, hQ⟩
    refine ⟨hR'.defs, ?_⟩
    obtain ⟨F, vs', hrun, hp'⟩ := resV_ok hR' hres
    have hR2 := F.rel a' hR'
    obtain ⟨hd1, hd2⟩ := hR2.hr.drop (H' := fun l t => bif Nat.blt l lev then σ''.H l t else .dead) (fun l t => by
      cases Nat.blt l lev
      · exact .inr rfl
      · exact .inl rfl)
    have hlev2 : σ''.lev = lev := F.lev.trans hlev
    rw [hlev2] at hd1
    have hrunA : (results fn a'.tmps).run P w' = .ok (if h : vs'.length = 1 then vs'[0] else .tuple ⟨vs'⟩) w' := by
      have e : results fn a'.tmps = (do
        let vs ← fn.results.mapM (resOne a'.tmps)
        pure (if h : vs.size = 1 then vs[0] else .tuple vs)) := rfl
      rw [e, Array.mapM_eq_mapM_toList]
      simp [hrun]
    refine ⟨_, hrunA, _, retVal ds, _, K', rfl, hQ, hd1, fun l t hl => ?_, ?_, ?_⟩
    · have : Nat.blt l lev = false := by
        cases hh : Nat.blt l lev
        · rfl
        · rw [Nat.blt_eq] at hh; omega
      simp [this]
    · match ds, vs', hp' with
      | [], [], _ =>
        exact .tup (xs := []) (vs := []) rfl (by simp)
      | [d], [u], hp' =>
        simp only [List.length_singleton, dif_pos, retVal]
        exact .d ((hp'.2 0 d u rfl rfl).mono hd2)
      | d1 :: d2 :: r, u1 :: u2 :: r2, hp' =>
        rw [dif_neg (by simp)]
        simp only [retVal]
        refine .tup (by simpa using hp'.1) (fun j c x hc hx => ?_)
        rw [List.getElem?_map] at hc
        obtain ⟨y, hy, rfl⟩ := Option.map_eq_some_iff.1 hc
        exact .d ((hp'.2 j y x hy hx).mono hd2)
      | [], _ :: _, hp' => have := hp'.1; simp at this
      | [_], [], hp' => have := hp'.1; simp at this
      | [_], _ :: _ :: _, hp' => have := hp'.1; simp at this
      | _ :: _ :: _, [], hp' => have := hp'.1; simp at this
      | _ :: _ :: _, [_], hp' => have := hp'.1; simp at this
    · have hm : ∀ xs : List DVal, AVal.belL lev (xs.map .d) = true := fun xs => by
        rw [AVal.belL_iff]
        intro y hy
        obtain ⟨z, _, rfl⟩ := List.mem_map.1 hy
        rfl
      match ds with
      | [] => rfl
      | [d] => rfl
      | d1 :: d2 :: r => exact hm (d1 :: d2 :: r)
  have key2 : (σ'.lev = lev ∧ aRes lev Q (resV P σ' fn.results.toList)) → ∃ ds σ'', σ'.lev = lev ∧ resV P σ' fn.results.toList = some (ds, σ'') ∧ Q (retVal ds) (fun l t => bif Nat.blt l lev then σ''.H l t else .dead) := by
    rintro ⟨h1, h2⟩
    cases hr : resV P σ' fn.results.toList with
    | none => rw [hr] at h2; exact h2.elim
    | some p => rw [hr] at h2; exact ⟨p.1, p.2, h1, rfl, h2⟩
  cases e with
  | normal => exact key (key2 hq)
  | ret => exact key (key2 hq)
  | _ => exact hq.elim
theorem pcalls_of_awp {P : Program} {f : FuncId} {fn : Func} {c : Code} {args : List DVal} {r : AVal} (hf : P.funcs[f]? = some fn) (hb : fn.body = some c) (hn : hasBody P f = true) (hl : (args.map AVal.d).length ≤ fn.ntmps)
    (h : awp P c (Ends P fn 0 (fun r' _ => r' = r)) (entry fn.ntmps 0 (args.map .d) (fun _ _ => .dead))) : PCalls P f args r := acalls_of_awp hf hb hn hl h
/-- The end of a body that hands an array of its own over. -/
def fRes (σ : St) (sz : Nat) (xs : List DVal) : List ResultVar → Prop
  | [.tmp t] => ∃ k, lk σ.T t = .ref 0 k xs.length ∧ σ.H 0 k = .arr sz xs
  | _ => False
def FEnds (fn : Func) (sz : Nat) (xs : List DVal) : Exit → St → Prop
  | .normal, σ => σ.lev = 0 ∧ fRes σ sz xs fn.results.toList
  | .ret, σ => σ.lev = 0 ∧ fRes σ sz xs fn.results.toList
  | _, _ => False
theorem fcalls_of_awp {P : Program} {f : FuncId} {fn : Func} {c : Code} {args : List DVal} {sz : Nat} {xs : List DVal} (hf : P.funcs[f]? = some fn) (hb : fn.body = some c) (hn : hasBody P f = true) (hl : (args.map AVal.d).length ≤ fn.ntmps)
    (h : awp P c (FEnds fn sz xs) (entry fn.ntmps 0 (args.map .d) (fun _ _ => .dead))) : FCalls P f args sz xs := by
  refine ⟨hn, fun S0 w vs hS hp => ?_⟩
  have hvl : vs.length = (args.map AVal.d).length := by rw [List.length_map]; exact hp.1
  let K : Kt := fun _ _ _ => none
  have hbad : ∀ b, badOf S0 K (fun _ _ => .dead) b → S0 b := fun b hb => by rcases hb with hb | ⟨_, _, hb⟩; exact hb; exact hb.elim
  have hR : Rel ⟨S0, ownsIn K (fun _ _ => .dead), badOf S0 K (fun _ _ => .dead), K, w⟩ (entry fn.ntmps 0 (args.map .d) (fun _ _ => .dead)) { tmps := (⟨vs⟩ : Array Value) ++ Array.replicate (fn.ntmps - (⟨vs⟩ : Array Value).size) undef, defers := [] } w K := by
    refine ⟨?_, rfl, fun t => ?_, fun t => ?_, HRel.dead hS⟩
    · simp only [entry, Array.size_append, Array.size_replicate]
      have : (⟨vs⟩ : Array Value).size = vs.length := rfl
      omega
    · simp only [entry, lk_argT, Nat.zero_le, if_true, Nat.sub_zero]
      cases ha : (args.map AVal.d)[t]? with
      | none => exact .any
      | some x =>
        simp only [Option.getD_some]
        have hlt : t < vs.length := by rw [hvl]; exact (List.getElem?_eq_some_iff.1 ha).1
        have e : ((⟨vs⟩ : Array Value) ++ Array.replicate (fn.ntmps - (⟨vs⟩ : Array Value).size) undef).getD t undef = vs[t] := by
          rw [Array.getD_eq_getD_getElem?, Array.getElem?_append_left (by simpa using hlt)]
          simp [hlt]
        rw [e]
        rw [List.getElem?_map] at ha
        obtain ⟨y, hy, rfl⟩ := Option.map_eq_some_iff.1 ha
        exact .d ((hp.2 t y _ hy (List.getElem?_eq_getElem hlt)).mono fun b _ hb => ⟨fun e => hb (hbad b e), rfl⟩)
    · simp only [entry, lk_argT, Nat.zero_le, if_true, Nat.sub_zero]
      cases ha : (args.map AVal.d)[t]? with
      | none => rfl
      | some x =>
        rw [List.getElem?_map] at ha
        obtain ⟨y, _, rfl⟩ := Option.map_eq_some_iff.1 ha
        rfl
  refine calls_of_wp hf hb (wp_mono (h _ _ w K hR) ?_)
  rintro e a' w' ⟨σ', K', hq, hR'⟩
  have key : (σ'.lev = 0 ∧ fRes σ' sz xs fn.results.toList) → a'.defers = [] ∧ ∃ v, (results fn a'.tmps).run P w' = .ok v w' ∧ ∃ ad cap, Ending.returned v = .returned (.slice ad xs.length cap) ∧ Ch (fun _ => False) w w' ∧ (∀ x ∈ xs, x.cells.length = sz) ∧ xs.length ≤ cap ∧
      ArrAt (fun b => S0 b ∨ ∃ x, ad = some x ∧ b = x.block) w' w' sz xs cap ad ∧ ∀ x, ad = some x → w.heap.size ≤ x.block := by
    rintro ⟨hlev, hres⟩
    refine ⟨hR'.defs, ?_⟩
    cases hrs : fn.results.toList with
    | nil => rw [hrs] at hres; exact hres.elim
    | cons r rest =>
    cases rest with
    | cons r2 rest2 => rw [hrs] at hres; cases r <;> exact hres.elim
    | nil =>
    cases r with
    | cell ad ty => rw [hrs] at hres; exact hres.elim
    | tmp t =>
      rw [hrs] at hres
      obtain ⟨k, hlk, hH⟩ := hres
      have htm := hR'.tm t
      rw [hlk] at htm
      have hob := hR'.hr.ob 0 k
      rw [hH] at hob
      obtain ⟨_, a0, cap0, hK0, hcs, hcap, hat⟩ := hob
      have hrun : (results fn a'.tmps).run P w' = .ok (a'.tmps.getD t undef) w' := by
        have e : results fn a'.tmps = (do
          let vs ← fn.results.mapM (resOne a'.tmps)
          pure (if h : vs.size = 1 then vs[0] else .tuple vs)) := rfl
        rw [e, Array.mapM_eq_mapM_toList, hrs]
        simp [resOne]
      refine ⟨_, hrun, ?_⟩
      generalize a'.tmps.getD t undef = v at htm
      cases htm with
      | ref hk =>
        rw [hK0] at hk
        simp only [Option.some.injEq, Prod.mk.injEq] at hk
        obtain ⟨rfl, rfl, rfl⟩ := hk
        refine ⟨a0, cap0, rfl, hR'.hr.ext.mono (fun b ⟨_, _, e⟩ => e.elim), hcs, hcap, ?_, fun x hx => ?_⟩
        · cases a0 with
          | none => exact hat
          | some b =>
            obtain ⟨h1, vs', ty, fz, h2, h3, h4, h5⟩ := hat
            refine ⟨h1, vs', ty, fz, h2, h3, h4, fun j c hcj => ?_⟩
            obtain ⟨u, hu, hu1, hu2⟩ := h5 j c hcj
            refine ⟨u, hu, hu1, hu2.mono fun b' _ hb' => ⟨fun e => hb' ?_, rfl⟩⟩
            rcases e with e | ⟨x, hx, rfl⟩
            · exact .inl e
            · cases hx
              refine .inr ⟨0, k, ?_⟩
              rw [hH]
              obtain ⟨b0, o0, s0⟩ := b
              simp only at h1
              subst h1
              exact ⟨o0, _, hK0⟩
        · subst hx
          have hown : (σ'.H 0 k).own K' 0 k x.block := by
            rw [hH]
            cases hat with
            | intro h1 _ =>
              obtain ⟨b0, o0, s0⟩ := x
              simp only at h1
              subst h1
              exact ⟨o0, _, hK0⟩
          rcases hR'.hr.new 0 k _ hown with ⟨_, _, e⟩ | e
          · exact e.elim
          · exact e
  cases e with
  | normal => exact key hq
  | ret => exact key hq
  | _ => exact hq.elim
end Go.Fw
/- Regions as lists, in the form that simp works off. -/
set_option autoImplicit false
namespace Go.Fw
/-- One of two ways; simp looks at the test alone. -/
def aIf (b : Bool) (X Y : Prop) : Prop := if b = true then X else Y
@[congr] theorem aIf_congr {b b' : Bool} {X Y : Prop} (h : b = b') : aIf b X Y = aIf b' X Y := by rw [h]
@[go_sem] theorem aIf_true (X Y : Prop) : aIf true X Y = X := by simp [aIf]
@[go_sem] theorem aIf_false (X Y : Prop) : aIf false X Y = Y := by simp [aIf]
@[go_sem] theorem aIf_not (b : Bool) (X Y : Prop) : aIf (!b) X Y = aIf b Y X := by cases b <;> rfl
theorem aIf_intro {b : Bool} {X Y : Prop} (h : b = true → X) (k : b = false → Y) : aIf b X Y := by
  cases b
  · rw [aIf_false]; exact k rfl
  · rw [aIf_true]; exact h rfl
def aG (f : Bool → Prop) : Option Bool → Prop
  | none => False
  | some b => f b
def aStep (R : Prop) (N : St → Prop) : Option St → Prop
  | none => R
  | some σ => N σ
@[congr] theorem aG_congr {f : Bool → Prop} {o o' : Option Bool} (h : o = o') : aG f o = aG f o' := by rw [h]
@[congr] theorem aStep_congr {R : Prop} {N : St → Prop} {o o' : Option St} (h : o = o') : aStep R N o = aStep R N o' := by rw [h]
noncomputable def aC (P : Program) (σ : St) (o : Oper) (N : St → Prop) : Option (FuncId × List AVal) → Prop
  | some (f, args) => okDst σ.n o.dst = true ∧ CallOk P σ f args o.dst N
  | none => aStep (nilGo P σ o.dst N (nilTag o.op)) N (stepOp P σ o)
@[congr] theorem aC_congr {P : Program} {σ : St} {o : Oper} {N : St → Prop} {c c' : Option (FuncId × List AVal)} (h : c = c') : aC P σ o N c = aC P σ o N c' := by rw [h]
@[congr] theorem callOk_congr {P : Program} {σ σ' : St} {f : FuncId} {args args' : List AVal} {dst : Option Tmp} {N : St → Prop} (h : σ = σ') (k : args = args') : CallOk P σ f args dst N = CallOk P σ' f args' dst N := by rw [h, k]
noncomputable def aOpsL (P : Program) (ops : Array Oper) (N : St → Prop) : List Oper → St → Prop
  | [], σ => N σ
  | o :: is, σ => aG (fun b => aIf b (aC P σ o (aOpsL P ops N is) (callD σ o.op)) (okDst σ.n o.dst = true ∧ aOpsL P ops N is (σ.put o.dst (.tup [])))) (gdOf ops σ o)
theorem aOps_of_L {P : Program} {ops : Array Oper} {N : St → Prop} : ∀ (l : List Oper) (k : Nat) (σ : St), (∀ j, ops[k + j]? = l[j]?) → aOpsL P ops N l σ → aOps P ops N (List.range' k l.length) σ
  | [], k, σ, _, h => h
  | o :: is, k, σ, hl, h => by
    have h0 := hl 0
    simp only [Nat.add_zero, List.getElem?_cons_zero] at h0
    have hl' : ∀ j, ops[k + 1 + j]? = is[j]? := fun j => by
      have := hl (j + 1)
      rwa [List.getElem?_cons_succ, show k + (j + 1) = k + 1 + j by omega] at this
    simp only [List.length_cons, List.range'_succ, aOps, h0]
    simp only [aOpsL] at h
    cases hg : gdOf ops σ o with
    | none => rw [hg] at h; exact h
    | some b =>
      rw [hg] at h
      simp only [aG] at h
      cases b with
      | false =>
        rw [aIf_false] at h
        exact ⟨h.1, aOps_of_L is (k + 1) _ hl' h.2⟩
      | true =>
        rw [aIf_true] at h
        simp only [callOf]
        cases hc : callD σ o.op with
        | some p =>
          obtain ⟨f, args⟩ := p
          rw [hc] at h
          simp only [aC] at h ⊢
          refine ⟨h.1, ?_⟩
          rcases h.2 with ⟨ds, σ1, r, h1, h2, h3⟩ | ⟨m, args', σ1, h1, h2⟩ | ⟨bb, d, ds, σ1, sz, xs, h0, h1, h2, h3⟩
          · exact .inl ⟨ds, σ1, r, h1, h2, aOps_of_L is (k + 1) _ hl' h3⟩
          · exact .inr (.inl ⟨m, args', σ1, h1, h2.mono fun r H' h3 => aOps_of_L is (k + 1) _ hl' h3⟩)
          · exact .inr (.inr ⟨bb, d, ds, σ1, sz, xs, h0, h1, h2, aOps_of_L is (k + 1) _ hl' h3⟩)
        | none =>
          rw [hc] at h
          simp only [aC] at h ⊢
          cases hs : stepOp P σ o with
          | none =>
            rw [hs] at h
            simp only [aStep] at h ⊢
            cases hx : nilTag o.op with
            | none => rw [hx] at h; exact h.elim
            | some p =>
              obtain ⟨k', t', x'⟩ := p
              rw [hx] at h
              exact ⟨h.1, h.2.1, h.2.2.1, fun b hb => aOps_of_L is (k + 1) _ hl' (h.2.2.2 b hb)⟩
          | some σ' => rw [hs] at h; exact aOps_of_L is (k + 1) _ hl' h
theorem awp_reg {P : Program} {Q : Exit → St → Prop} {σ : St} {id : Nat} {ops : Array Oper} (h : aOpsL P ops (Q .normal) ops.toList σ) : awp P (.region id ops false) Q σ := by
  refine awp_region ?_
  have := aOps_of_L (P := P) (ops := ops) (N := Q .normal) ops.toList 0 σ (fun j => by simp) h
  rwa [← List.range_eq_range', Array.length_toList] at this
/-- A call of data in a region. -/
theorem callOk_data {P : Program} {σ : St} {f : FuncId} {args : List AVal} {dst : Option Tmp} {N : St → Prop} {ds : List DVal} {σ1 : St} {r : AVal} (hc : PCalls P f ds r) (hf : frzL σ args = some (ds, σ1)) (h : N ((bif scalarA r then σ else σ1).put dst r)) :
    CallOk P σ f args dst N := .inl ⟨ds, σ1, r, hf, hc, h⟩
theorem callOk_raw {P : Program} {σ : St} {f : FuncId} {args : List AVal} {dst : Option Tmp} {N : St → Prop} {Q : AVal → Hp → Prop} (hc : ACalls P f args (σ.lev + 1) σ.H Q) (h : ∀ r H', Q r H' → N (St.put { σ with H := H' } dst r)) :
    CallOk P σ f args dst N := .inr (.inl ⟨[], args, σ, by cases args <;> rfl, hc.mono h⟩)
theorem callOk_frz {P : Program} {σ : St} {f : FuncId} {args : List AVal} {dst : Option Tmp} {N : St → Prop} {args' : List AVal} {σ1 : St} {Q : AVal → Hp → Prop} (m : List Bool) (hf : frzM m σ args = some (args', σ1)) (hc : ACalls P f args' (σ1.lev + 1) σ1.H Q) (h : ∀ r H', Q r H' → N (St.put { σ1 with H := H' } dst r)) :
    CallOk P σ f args dst N := .inr (.inl ⟨m, args', σ1, hf, hc.mono h⟩)
theorem callOk_new {P : Program} {σ : St} {f : FuncId} {args : List AVal} {d : Nat} {N : St → Prop} {ds : List DVal} {σ1 : St} {sz : Nat} {xs : List DVal} (hc : FCalls P f ds sz xs) (hf : frzL σ args = some (ds, σ1)) (h : N (σ1.alloc d (.arr sz xs) (.ref σ1.lev d xs.length))) :
    CallOk P σ f args (some d) N := .inr (.inr ⟨false, d, ds, σ1, sz, xs, rfl, hf, hc, h⟩)
theorem callOk_newN {P : Program} {σ : St} {f : FuncId} {args : List AVal} {d : Nat} {N : St → Prop} {ds : List DVal} {σ1 : St} {sz : Nat} {xs : List DVal} (hc : FCalls P f ds sz xs) (hf : frzL σ (args.map nilA) = some (ds, σ1)) (h : N (σ1.alloc d (.arr sz xs) (.ref σ1.lev d xs.length))) :
    CallOk P σ f args (some d) N := .inr (.inr ⟨true, d, ds, σ1, sz, xs, rfl, hf, hc, h⟩)
@[go_sem] theorem nilA_nils : nilA .nils = .d (.v (.slice none 0 0)) := rfl
@[go_sem] theorem nilA_d (x : DVal) : nilA (.d x) = .d x := rfl
@[go_sem] theorem nilA_ref (l t n : Nat) : nilA (.ref l t n) = .ref l t n := rfl

/-! ### Values of scalar operations -/
/-- Equality as Bools that simp takes as they are. -/
def ieq (a b : Int) : Bool := decide (a = b)
def seqB (s u : ByteArray) : Bool := decide (s = u)
def beqB (c d : Bool) : Bool := c == d
@[go_sem] theorem ieq_self (a : Int) : ieq a a = true := by simp [ieq]
@[go_sem] theorem ieq_lit (m n : Nat) : ieq (no_index (OfNat.ofNat m : Int)) (no_index (OfNat.ofNat n)) = (m == n) := by
  have : ((OfNat.ofNat m : Int) = OfNat.ofNat n) ↔ m = n := Int.ofNat_inj
  simp only [ieq, this]; rfl
@[go_sem] theorem seqB_self (s : ByteArray) : seqB s s = true := by simp [seqB]
@[go_sem] theorem beqB_lit (c : Bool) : beqB c true = c := by cases c <;> rfl
@[go_sem] theorem beqB_lit' (c : Bool) : beqB c false = !c := by cases c <;> rfl
@[go_sem] theorem beqB_self (c : Bool) : beqB c c = true := by cases c <;> rfl
section
variable (P : Program) (t : TypeId) (x y : Operand) (k : IntKind) (a b : Int)
@[go_sem] theorem binV_add : binV P .add t x y (.int k a) (.int k b) = some (.int k (k.wrap (a + b))) := pr_of fun w => by simp [binS, eqGuard, binOp, Op.intArith]
@[go_sem] theorem binV_sub : binV P .sub t x y (.int k a) (.int k b) = some (.int k (k.wrap (a - b))) := pr_of fun w => by simp [binS, eqGuard, binOp, Op.intArith]
@[go_sem] theorem binV_mul : binV P .mul t x y (.int k a) (.int k b) = some (.int k (k.wrap (a * b))) := pr_of fun w => by simp [binS, eqGuard, binOp, Op.intArith]
@[go_sem] theorem binV_eql : binV P .eql t x y (.int k a) (.int k b) = some (.bool (ieq a b)) := pr_of fun w => by simp [binS, eqGuard, binOp, Op.intCmp, ieq]; rfl
@[go_sem] theorem binV_neq : binV P .neq t x y (.int k a) (.int k b) = some (.bool !ieq a b) := pr_of fun w => by simp [binS, eqGuard, binOp, Op.intCmp, ieq, bne]; rfl
@[go_sem] theorem binV_lss : binV P .lss t x y (.int k a) (.int k b) = some (.bool (decide (a < b))) := pr_of fun w => by simp [binS, eqGuard, binOp, Op.intCmp]
@[go_sem] theorem binV_leq : binV P .leq t x y (.int k a) (.int k b) = some (.bool (decide (a ≤ b))) := pr_of fun w => by simp [binS, eqGuard, binOp, Op.intCmp]
@[go_sem] theorem binV_gtr : binV P .gtr t x y (.int k a) (.int k b) = some (.bool (decide (b < a))) := pr_of fun w => by simp [binS, eqGuard, binOp, Op.intCmp]
@[go_sem] theorem binV_geq : binV P .geq t x y (.int k a) (.int k b) = some (.bool (decide (b ≤ a))) := pr_of fun w => by simp [binS, eqGuard, binOp, Op.intCmp]
@[go_sem] theorem unV_not (c : Bool) : unV P .not (.bool c) = some (.bool !c) := pr_of fun w => by simp [Op.unary]
@[go_sem] theorem unV_neg : unV P .neg (.int k a) = some (.int k (k.wrap (0 - a))) := pr_of fun w => by simp [Op.unary, Op.intArith]
variable (s u : ByteArray)
theorem toList_beq : (s.toList == u.toList) = seqB s u := by
  rw [seqB, Bool.eq_iff_iff, beq_iff_eq, decide_eq_true_eq, ByteArray.toList_eq, ByteArray.toList_eq]
  constructor
  · intro h
    cases s; cases u
    congr 1
    exact Array.ext' h
  · rintro rfl; rfl
@[go_sem] theorem binV_seql : binV P .eql t x y (.string s) (.string u) = some (.bool (seqB s u)) := pr_of fun w => by
  rw [← toList_beq]; simp [binS, eqGuard, binOp, Op.stringOp]
@[go_sem] theorem binV_sneq : binV P .neq t x y (.string s) (.string u) = some (.bool (!seqB s u)) := pr_of fun w => by
  rw [← toList_beq]; simp [binS, eqGuard, binOp, Op.stringOp]
theorem binV_sadd (h : s.size + u.size ≤ 9223372036854775807) : binV P .add t x y (.string s) (.string u) = some (.string (s ++ u)) := pr_of fun w => by
  have h2 : IntKind.i64.max = 9223372036854775807 := by rfl
  simp only [binS, eqGuard, binOp, Op.stringOp, h2]
  simp
  omega
theorem binV_beql (ht : P.underlying t = some .bool) (c d : Bool) : binV P .eql t x y (.bool c) (.bool d) = some (.bool (beqB c d)) := pr_of fun w => by
  have e : Op.maxDepth = 9999 + 1 := rfl
  simp [binS, eqGuard, binOp, Op.equal, e, run_equalIn_bool' w 9999 t c d ht, beqB]
theorem binV_bneq (ht : P.underlying t = some .bool) (c d : Bool) : binV P .neq t x y (.bool c) (.bool d) = some (.bool (!beqB c d)) := pr_of fun w => by
  have e : Op.maxDepth = 9999 + 1 := rfl
  simp [binS, eqGuard, binOp, Op.equal, e, run_equalIn_bool' w 9999 t c d ht, beqB]
end
end Go.Fw
/- What simp works off: the equations of the abstract steps. -/
set_option autoImplicit false
namespace Go.Fw
@[go_sem] theorem nbeq (a b : Nat) : Nat.beq a b = (a == b) := by
  cases h : Nat.beq a b
  · have : ¬ a = b := fun e => by rw [e] at h; simp at h
    simp [this]
  · simp [Nat.eq_of_beq_eq_true h]
@[go_sem] theorem nblt (a b : Nat) : Nat.blt a b = decide (a < b) := by
  cases h : Nat.blt a b
  · have : ¬ a < b := fun e => by rw [← Nat.blt_eq, h] at e; cases e
    simp [this]
  · rw [Nat.blt_eq] at h; simp [h]
@[go_sem] theorem nble (a b : Nat) : Nat.ble a b = decide (a ≤ b) := by
  cases h : Nat.ble a b
  · have : ¬ a ≤ b := fun e => by rw [← Nat.ble_eq, h] at e; cases e
    simp [this]
  · rw [Nat.ble_eq] at h; simp [h]
@[go_sem] theorem Hp.set_app (H : Hp) (l t : Nat) (o : AObj) (l' t' : Nat) : (H.set l t o) l' t' = bif l' == l && t' == t then o else H l' t' := rfl
@[go_sem] theorem Hp.alloc_app (H : Hp) (l t : Nat) (o : AObj) (l' t' : Nat) : (H.alloc l t o) l' t' = bif l' == l then (bif t' == t then o else (H l' t').purge l t) else H l' t' := rfl
def tyS (P : Program) (e : TypeId) : Option (Nat × Nat × Value) := (P.info? e).bind fun i => i.zero.map fun z => (i.size, i.bytes, z)
def appOk' (P : Program) (u : TypeId) (sz by_ : Nat) (z : Value) (n : Nat) (ys : List DVal) : Bool :=
  (z.cells.size == sz) && notInt P u && allLen sz ys && (decide (n * by_ ≤ 140737488355328) || (decide (n * by_ ≤ 211106232532992) && decide (by_ ≤ 1048576))) && decide (n ≤ 9223372036854775807)
abbrev Ty3 := Nat × Nat × Value
def stApp (P : Program) (σ : St) (d : Nat) (u : TypeId) (x : AVal) (ys : List DVal) (sz by_ : Nat) (z : Value) : Option St :=
  match x with
  | .nils => bif appOk' P u sz by_ z ys.length ys then some (σ.alloc d (.arr sz ys) (.ref σ.lev d ys.length)) else none
  | .ref l s k =>
    match σ.H l s with
    | .arr sz' xs => bif appOk' P u sz by_ z (xs.length + ys.length) ys && (k == xs.length) && (sz' == sz) && decide (l ≤ σ.lev) then
        some (St.put { σ with H := σ.H.set l s (.arr sz' (xs ++ ys)) } (some d) (.ref l s (xs.length + ys.length))) else none
    | _ => none
  | _ => none
@[go_sem] theorem stAppend_eq (P : Program) (σ : St) (d : Nat) (t u : TypeId) (x y : AVal) :
    stAppend P σ d t u x y = (elemOf' P t).bind fun e => (tyS P e).bind fun p => (srcL σ y).bind fun ys => stApp P σ d u x ys p.1 p.2.1 p.2.2 := by
  unfold stAppend
  cases elemOf' P t with
  | none => rfl
  | some e =>
    simp only [Option.bind_some]
    unfold tyS
    cases hi : P.info? e with
    | none => rfl
    | some i =>
      simp only [Option.bind_some]
      cases hz : i.zero with
      | none =>
        have e1 : ∀ n ys, appOk P u i n ys = false := fun n ys => by unfold appOk; rw [hz]; rfl
        simp only [e1, Option.map_none, Option.bind_none, cond_false, Bool.false_and]
        cases srcL σ y with
        | none => rfl
        | some ys =>
          simp only [Option.bind_some]
          cases x <;> try rfl
          rename_i l s k
          simp only
          generalize σ.H l s = q
          cases q <;> rfl
      | some z =>
        have e1 : ∀ n ys, appOk P u i n ys = appOk' P u i.size i.bytes z n ys := fun n ys => by
          unfold appOk appOk'
          rw [hz]
          simp only [Option.any_some, nble, nbeq]
        simp only [Option.map_some, Option.bind_some, e1, nble, nbeq]
        cases srcL σ y with
        | none => rfl
        | some ys =>
          simp only [Option.bind_some, stApp]
          try rfl
@[go_sem] theorem stBuildSlice_eq (P : Program) (σ : St) (d : Nat) (t : TypeId) (len : Nat) (parts : Array (Nat × Operand)) :
    stBuildSlice P σ d t len parts = (elemOf' P t).bind fun e => (tyS P e).bind fun p => (frzL σ (parts.toList.map fun p => evO σ p.2)).bind fun q =>
      bif p.2.2.cells.toList.all (·.oneCell') && (p.2.2.cells.size == p.1) && decide (0 < p.1) && decide (len * p.1 ≤ 16777216) && (zipI parts.toList q.1).all (fun r => decide (r.1 < len) && (r.2.cells.length == p.1)) then
        some (q.2.alloc d (.arr p.1 (setAll (List.replicate len (zeroD p.2.2)) (zipI parts.toList q.1))) (.ref q.2.lev d len)) else none := by
  unfold stBuildSlice
  cases elemOf' P t with
  | none => rfl
  | some e =>
    simp only [Option.bind_some]
    unfold tyS
    cases hi : P.info? e with
    | none => rfl
    | some i =>
      simp only [Option.bind_some]
      cases hz : i.zero with
      | none => rfl
      | some z => simp only [Option.map_some, Option.bind_some, nble, nblt, nbeq]
@[go_sem] theorem stMakeSlice_eq (P : Program) (σ : St) (d : Nat) (t : TypeId) (l c : AVal) :
    stMakeSlice P σ d t l c = (elemOf' P t).bind fun e => (tyS P e).bind fun p => (intOfA l).bind fun n => (intOfA c).bind fun m =>
      bif p.2.2.cells.toList.all (·.oneCell') && (p.2.2.cells.size == p.1) && decide (0 < p.1) && decide (0 ≤ n) && decide (n ≤ m) && decide ((p.2.1 : Int) * m ≤ 140737488355328) && decide (m ≤ 140737488355328) then
        some (σ.alloc d (.arr p.1 (List.replicate n.toNat (zeroD p.2.2))) (.ref σ.lev d n.toNat)) else none := by
  unfold stMakeSlice
  cases elemOf' P t with
  | none => rfl
  | some e =>
    simp only [Option.bind_some]
    unfold tyS
    cases hi : P.info? e with
    | none => rfl
    | some i =>
      simp only [Option.bind_some]
      cases hz : i.zero with
      | none => rfl
      | some z => simp only [Option.map_some, Option.bind_some, nblt, nbeq]
@[go_sem] theorem zeroC_eq (P : Program) (t : TypeId) : zeroC P t = (tyS P t).map fun p => p.2.2.cells.toList := by
  unfold zeroC tyS
  cases P.info? t with
  | none => rfl
  | some i => simp only [Option.bind_some]; cases i.zero <;> rfl
@[go_sem] theorem beq_true' (b : Bool) : (b == true) = b := by cases b <;> rfl
@[go_sem] theorem beq_false' (b : Bool) : (b == false) = !b := by cases b <;> rfl
theorem ite_true_bool (b : Bool) (x y : Prop) : (if b = true then x else y) = ((b = true → x) ∧ (b = false → y)) := by cases b <;> simp
/-- An operation behind a guard. -/
noncomputable def aGo (P : Program) (ops : Array Oper) (N : St → Prop) (o : Oper) (is : List Oper) (σ : St) (b : Bool) : Prop := aIf b (aC P σ o (aOpsL P ops N is) (callD σ o.op)) (okDst σ.n o.dst = true ∧ aOpsL P ops N is (σ.put o.dst (.tup [])))
section
variable (P : Program) (ops : Array Oper) (N : St → Prop) (o : Oper) (is : List Oper) (σ : St)
@[go_sem] theorem aOpsL_nil : aOpsL P ops N [] σ = N σ := rfl
@[go_sem] theorem aOpsL_cons : aOpsL P ops N (o :: is) σ = aG (aGo P ops N o is σ) (gdOf ops σ o) := rfl
@[go_sem] theorem aGo_true : aGo P ops N o is σ true = aC P σ o (aOpsL P ops N is) (callD σ o.op) := aIf_true _ _
@[go_sem] theorem aGo_false : aGo P ops N o is σ false = (okDst σ.n o.dst = true ∧ aOpsL P ops N is (σ.put o.dst (.tup []))) := aIf_false _ _
variable {P ops N o is σ}
theorem aGo_split {b : Bool} (h : b = true → aGo P ops N o is σ true) (k : b = false → aGo P ops N o is σ false) : aGo P ops N o is σ b := by
  cases b
  · exact k rfl
  · exact h rfl
theorem aGo_splitN {b : Bool} (h : b = true → aGo P ops N o is σ false) (k : b = false → aGo P ops N o is σ true) : aGo P ops N o is σ (!b) := by
  cases b
  · exact k rfl
  · exact h rfl
end
section
variable (P : Program) (σ : St) (dst : Option Tmp) (ty : TypeId)
@[go_sem] theorem callD_assign (x : Operand) : callD σ (.assign x) = none := rfl
@[go_sem] theorem stepD_assign (x : Operand) : stepD P σ dst ty (.assign x) = bif isNilS x then onDst dst (fun d => stNilSlice P σ d ty) else some (σ.put dst (evO σ x)) := rfl
@[go_sem] theorem callD_move (x : Operand) : callD σ (.move x) = none := rfl
@[go_sem] theorem stepD_move (x : Operand) : stepD P σ dst ty (.move x) = some (σ.put dst (evO σ x)) := rfl
@[go_sem] theorem callD_pick (c x y : Operand) : callD σ (.pick c x y) = none := rfl
@[go_sem] theorem stepD_pick (c x y : Operand) : stepD P σ dst ty (.pick c x y) = stPick σ dst c x y := rfl
@[go_sem] theorem callD_alloc (t : TypeId) : callD σ (.alloc t) = none := rfl
@[go_sem] theorem stepD_alloc (t : TypeId) : stepD P σ dst ty (.alloc t) = onDst dst (fun d => stAlloc P σ d t) := rfl
@[go_sem] theorem callD_box (t : TypeId) (x : Operand) : callD σ (.box t x) = none := rfl
@[go_sem] theorem stepD_box (t : TypeId) (x : Operand) : stepD P σ dst ty (.box t x) = onDst dst (fun d => stBox σ d (evO σ x)) := rfl
@[go_sem] theorem callD_build (t : TypeId) (ps : Array (Nat × Operand)) : callD σ (.build t ps) = none := rfl
@[go_sem] theorem stepD_build (t : TypeId) (ps : Array (Nat × Operand)) : stepD P σ dst ty (.build t ps) = stBuild P σ dst t ps := rfl
@[go_sem] theorem callD_buildSlice (t : TypeId) (n : Nat) (ps : Array (Nat × Operand)) : callD σ (.buildSlice t n ps) = none := rfl
@[go_sem] theorem stepD_buildSlice (t : TypeId) (n : Nat) (ps : Array (Nat × Operand)) : stepD P σ dst ty (.buildSlice t n ps) = onDst dst (fun d => stBuildSlice P σ d t n ps) := rfl
@[go_sem] theorem callD_load (t : TypeId) (x : Operand) : callD σ (.load t x) = none := rfl
@[go_sem] theorem stepD_load (t : TypeId) (x : Operand) : stepD P σ dst ty (.load t x) = stLoad P σ dst t (evO σ x) := rfl
@[go_sem] theorem callD_store (t : TypeId) (x y : Operand) : callD σ (.store t x y) = none := rfl
@[go_sem] theorem stepD_store (t : TypeId) (x y : Operand) : stepD P σ dst ty (.store t x y) = stStore P σ dst t (evO σ x) (evO σ y) := rfl
@[go_sem] theorem callD_nilCheck (x : Operand) : callD σ (.nilCheck x) = none := rfl
@[go_sem] theorem stepD_nilCheck (x : Operand) : stepD P σ dst ty (.nilCheck x) = stNil σ dst x := rfl
@[go_sem] theorem callD_binOp (op : BinOp) (t : TypeId) (x y : Operand) (u : TypeId) : callD σ (.binOp op t x y u) = none := rfl
@[go_sem] theorem stepD_binOp (op : BinOp) (t : TypeId) (x y : Operand) (u : TypeId) : stepD P σ dst ty (.binOp op t x y u) = scal2 σ dst (evO σ x) (evO σ y) (binV P op t x y) := rfl
@[go_sem] theorem callD_unOp (op : UnOp) (t : TypeId) (x : Operand) : callD σ (.unOp op t x) = none := rfl
@[go_sem] theorem stepD_unOp (op : UnOp) (t : TypeId) (x : Operand) : stepD P σ dst ty (.unOp op t x) = scal1 σ dst (evO σ x) (unV P op) := rfl
@[go_sem] theorem callD_convert (s t : TypeId) (x : Operand) : callD σ (.convert s t x) = none := rfl
@[go_sem] theorem stepD_convert (s t : TypeId) (x : Operand) : stepD P σ dst ty (.convert s t x) = stConv P σ dst s t x := rfl
@[go_sem] theorem callD_makeFunc (f : Fn) (first caps : Array Operand) : callD σ (.makeFunc f first caps) = none := rfl
@[go_sem] theorem callD_makeSlice (t : TypeId) (l c : Operand) : callD σ (.makeSlice t l c) = none := rfl
@[go_sem] theorem stepD_makeSlice (t : TypeId) (l c : Operand) : stepD P σ dst ty (.makeSlice t l c) = onDst dst (fun d => stMakeSlice P σ d t (evO σ l) (evO σ c)) := rfl
@[go_sem] theorem callD_slice (t : TypeId) (x : Operand) (lo hi m : Option Operand) : callD σ (.slice t x lo hi m) = none := rfl
@[go_sem] theorem callD_fieldAddr (s : TypeId) (x : Operand) (f : Nat) : callD σ (.fieldAddr s x f) = none := rfl
@[go_sem] theorem stepD_fieldAddr (s : TypeId) (x : Operand) (f : Nat) : stepD P σ dst ty (.fieldAddr s x f) = stFieldA P σ dst s f (evO σ x) := rfl
@[go_sem] theorem callD_field (s : TypeId) (x : Operand) (f : Nat) : callD σ (.field s x f) = none := rfl
@[go_sem] theorem stepD_field (s : TypeId) (x : Operand) (f : Nat) : stepD P σ dst ty (.field s x f) = stField P σ dst s f (evO σ x) := rfl
@[go_sem] theorem callD_indexAddr (t : TypeId) (x i : Operand) : callD σ (.indexAddr t x i) = none := rfl
@[go_sem] theorem stepD_indexAddr (t : TypeId) (x i : Operand) : stepD P σ dst ty (.indexAddr t x i) = stIndexA P σ dst t (evO σ x) (evO σ i) := rfl
@[go_sem] theorem callD_index (t : TypeId) (x i : Operand) : callD σ (.index t x i) = none := rfl
@[go_sem] theorem stepD_index (t : TypeId) (x i : Operand) : stepD P σ dst ty (.index t x i) = scal2 σ dst (evO σ x) (evO σ i) (indexV P t) := rfl
@[go_sem] theorem callD_extract (x : Operand) (i : Nat) : callD σ (.extract x i) = none := rfl
@[go_sem] theorem stepD_extract (x : Operand) (i : Nat) : stepD P σ dst ty (.extract x i) = stExtract σ dst x i := rfl
@[go_sem] theorem stepD_makeFunc (f : FuncId) (first caps : Array Operand) : stepD P σ dst ty (.makeFunc (.func f) first caps) = bif first.toList.isEmpty then some (stFunc σ dst f caps) else none := rfl
@[go_sem] theorem stepD_slice (t : TypeId) (x : Operand) (lo hi : Option Operand) : stepD P σ dst ty (.slice t x lo hi none) = bif isStr P t then stSliceS P σ dst t (evO σ x) lo hi else stSliceL P σ dst t (evO σ x) lo hi := rfl
@[go_sem] theorem stepD_callB (b : Builtin) (args : Array Operand) (ts : Array TypeId) : stepD P σ dst ty (.call { callee := .builtin b, args := args, argTypes := ts }) = stCallB P σ dst ty b args.toList ts.toList := rfl
@[go_sem] theorem callD_callB (b : Builtin) (args : Array Operand) (ts : Array TypeId) : callD σ (.call { callee := .builtin b, args := args, argTypes := ts }) = none := rfl
def callV (args : List AVal) : AVal → Option (FuncId × List AVal)
  | .clo g caps => some (g, args ++ caps)
  | _ => none
@[go_sem] theorem callD_call (f : Operand) (args : Array Operand) (ts : Array TypeId) : callD σ (.call { callee := .value f, args := args, argTypes := ts }) = callV (evL σ args.toList) (evO σ f) := rfl
@[go_sem] theorem callV_clo (args : List AVal) (g : FuncId) (caps : List AVal) : callV args (.clo g caps) = some (g, args ++ caps) := rfl
@[go_sem] theorem evO_tmp (t : Nat) : evO σ (.tmp t) = lk σ.T t := rfl
@[go_sem] theorem evO_const (c : Value) : evO σ (.const c) = ofConst c := rfl
@[go_sem] theorem evO_func (f : FuncId) : evO σ (.func f) = .clo f [] := rfl
@[go_sem] theorem aG_some (f : Bool → Prop) (b : Bool) : aG f (some b) = f b := rfl
@[go_sem] theorem aStep_some (R : Prop) (N : St → Prop) : aStep R N (some σ) = N σ := rfl
@[go_sem] theorem aStep_none (R : Prop) (N : St → Prop) : aStep R N none = R := rfl
@[go_sem] theorem nilTag_eql (t u : TypeId) (x : Operand) : nilTag (.binOp .eql t x (.const (.slice none 0 0)) u) = some (true, t, x) := rfl
@[go_sem] theorem nilTag_neq (t u : TypeId) (x : Operand) : nilTag (.binOp .neq t x (.const (.slice none 0 0)) u) = some (false, t, x) := rfl
@[go_sem] theorem nilGo_some (dst : Option Tmp) (N : St → Prop) (k : Bool) (t : TypeId) (x : Operand) : nilGo P σ dst N (some (k, t, x)) = (isSlT P t = true ∧ okDst σ.n dst = true ∧ canNil (evO σ x) = true ∧ ∀ b, nilB (evO σ x) b → N (σ.put dst (.d (.v (.bool (bif k then b else !b)))))) := rfl
@[go_sem] theorem canNil_list (xs : List DVal) : canNil (.d (.list xs)) = true := rfl
@[go_sem] theorem nilB_list (xs : List DVal) (b : Bool) : nilB (.d (.list xs)) b = (b = true → xs = []) := rfl
@[go_sem] theorem aC_none (o : Oper) (N : St → Prop) : aC P σ o N none = aStep (nilGo P σ o.dst N (nilTag o.op)) N (stepOp P σ o) := rfl
@[go_sem] theorem aC_some (o : Oper) (N : St → Prop) (f : FuncId) (args : List AVal) : aC P σ o N (some (f, args)) = (okDst σ.n o.dst = true ∧ CallOk P σ f args o.dst N) := rfl
def gdG (ops : Array Oper) (σ : St) : Option (Nat × Bool) → Option Bool
  | none => some true
  | some (j, want) => (((ops[j]?).bind (·.dst)).bind fun d => gdB (lk σ.T d)).map (gdW · want)
@[go_sem] theorem gdOf_eq' (ops : Array Oper) (o : Oper) : gdOf ops σ o = gdG ops σ o.guard := by unfold gdOf gdG; rcases o.guard with _ | ⟨j, want⟩ <;> rfl
@[go_sem] theorem gdB_bool (b : Bool) : gdB (.d (.v (.bool b))) = some (some b) := rfl
@[go_sem] theorem gdB_undef : gdB (.tup []) = some none := rfl
@[go_sem] theorem gdW_some (b w : Bool) : gdW (some b) w = (b == w) := rfl
@[go_sem] theorem gdW_none (w : Bool) : gdW none w = false := rfl
@[go_sem] theorem gdG_none (ops : Array Oper) : gdG ops σ none = some true := rfl
@[go_sem] theorem gdG_some (ops : Array Oper) (j : Nat) (want : Bool) : gdG ops σ (some (j, want)) = (((ops[j]?).bind (·.dst)).bind fun d => gdB (lk σ.T d)).map (gdW · want) := rfl
@[go_sem] theorem okDst_some (n d : Nat) : okDst n (some d) = decide (d < n) := nblt d n
@[go_sem] theorem okDst_none (n : Nat) : okDst n none = true := rfl
@[go_sem] theorem onDst_some' (d : Nat) (f : Nat → Option St) : onDst (some d) f = f d := rfl
@[go_sem] theorem isNilS_tmp (t : Nat) : isNilS (.tmp t) = false := rfl
@[go_sem] theorem isNilS_func (f : FuncId) : isNilS (.func f) = false := rfl
@[go_sem] theorem isNilS_nil  : isNilS (.const (.slice none 0 0)) = true := rfl
@[go_sem] theorem isNilS_int (k : IntKind) (z : Int) : isNilS (.const (.int k z)) = false := rfl
@[go_sem] theorem isNilS_bool (b : Bool) : isNilS (.const (.bool b)) = false := rfl
@[go_sem] theorem isNilS_str (s : ByteArray) : isNilS (.const (.string s)) = false := rfl
@[go_sem] theorem isNilS_agg (cs : Array Value) : isNilS (.const (.agg cs)) = false := rfl
@[go_sem] theorem isNilS_nilFunc  : isNilS (.const .nilFunc) = false := rfl
@[go_sem] theorem isNilS_nilIface  : isNilS (.const .nilIface) = false := rfl
@[go_sem] theorem isNilS_ptr (a : Option Addr) : isNilS (.const (.pointer a)) = false := rfl
@[go_sem] theorem isNilS_map (a : Option Nat) : isNilS (.const (.map a)) = false := rfl
@[go_sem] theorem isNilS_tuple (cs : Array Value) : isNilS (.const (.tuple cs)) = false := rfl
@[go_sem] theorem ofConst_int (k : IntKind) (z : Int) : ofConst (.int k z) = .d (.v (.int k z)) := rfl
@[go_sem] theorem ofConst_bool (b : Bool) : ofConst (.bool b) = .d (.v (.bool b)) := rfl
@[go_sem] theorem ofConst_str (s : ByteArray) : ofConst (.string s) = .d (.v (.string s)) := rfl
@[go_sem] theorem ofConst_nil  : ofConst (.slice none 0 0) = .nils := rfl
@[go_sem] theorem ofConst_agg (cs : Array Value) : ofConst (.agg cs) = bif cs.all (·.oneCell') then .d (.agg (cs.toList.map constD)) else .any := rfl
@[go_sem] theorem ofConst_nilFunc  : ofConst (.nilFunc) = .d (.v .nilFunc) := rfl
@[go_sem] theorem ofConst_nilIface  : ofConst (.nilIface) = .d (.v .nilIface) := rfl
@[go_sem] theorem ofConst_ptr (a : Option Addr) : ofConst (.pointer a) = .d (.v (.pointer a)) := rfl
@[go_sem] theorem ofConst_map (a : Option Nat) : ofConst (.map a) = .d (.v (.map a)) := rfl
@[go_sem] theorem constD_int (k : IntKind) (z : Int) : constD (.int k z) = .v (.int k z) := rfl
@[go_sem] theorem constD_bool (b : Bool) : constD (.bool b) = .v (.bool b) := rfl
@[go_sem] theorem constD_str (s : ByteArray) : constD (.string s) = .v (.string s) := rfl
@[go_sem] theorem constD_nil (c : Nat) : constD (.slice none 0 c) = .list [] := rfl
@[go_sem] theorem constD_nilFunc  : constD (.nilFunc) = .v .nilFunc := rfl
@[go_sem] theorem constD_nilIface  : constD (.nilIface) = .v .nilIface := rfl
@[go_sem] theorem constD_ptr (a : Option Addr) : constD (.pointer a) = .v (.pointer a) := rfl
@[go_sem] theorem constD_map (a : Option Nat) : constD (.map a) = .v (.map a) := rfl
@[go_sem] theorem cellC_int (k : IntKind) (z : Int) : cellC (.int k z) = .d (.v (.int k z)) := rfl
@[go_sem] theorem cellC_bool (b : Bool) : cellC (.bool b) = .d (.v (.bool b)) := rfl
@[go_sem] theorem cellC_str (s : ByteArray) : cellC (.string s) = .d (.v (.string s)) := rfl
@[go_sem] theorem cellC_nil  : cellC (.slice none 0 0) = .nils := rfl
@[go_sem] theorem cellC_nilFunc  : cellC (.nilFunc) = .d (.v .nilFunc) := rfl
@[go_sem] theorem cellC_nilIface  : cellC (.nilIface) = .d (.v .nilIface) := rfl
@[go_sem] theorem cellC_ptr (a : Option Addr) : cellC (.pointer a) = .d (.v (.pointer a)) := rfl
@[go_sem] theorem cellC_map (a : Option Nat) : cellC (.map a) = .d (.v (.map a)) := rfl
@[go_sem] theorem oneC_int (k : IntKind) (z : Int) : (Value.int k z).oneCell' = true := rfl
@[go_sem] theorem vcells_int (k : IntKind) (z : Int) : (Value.int k z).cells = #[.int k z] := rfl
@[go_sem] theorem oneC_bool (b : Bool) : (Value.bool b).oneCell' = true := rfl
@[go_sem] theorem vcells_bool (b : Bool) : (Value.bool b).cells = #[.bool b] := rfl
@[go_sem] theorem oneC_str (s : ByteArray) : (Value.string s).oneCell' = true := rfl
@[go_sem] theorem vcells_str (s : ByteArray) : (Value.string s).cells = #[.string s] := rfl
@[go_sem] theorem oneC_slice (a : Option Addr) (l c : Nat) : (Value.slice a l c).oneCell' = true := rfl
@[go_sem] theorem vcells_slice (a : Option Addr) (l c : Nat) : (Value.slice a l c).cells = #[.slice a l c] := rfl
@[go_sem] theorem oneC_nilFunc  : (Value.nilFunc).oneCell' = true := rfl
@[go_sem] theorem vcells_nilFunc  : (Value.nilFunc).cells = #[.nilFunc] := rfl
@[go_sem] theorem oneC_nilIface  : (Value.nilIface).oneCell' = true := rfl
@[go_sem] theorem vcells_nilIface  : (Value.nilIface).cells = #[.nilIface] := rfl
@[go_sem] theorem oneC_ptr (a : Option Addr) : (Value.pointer a).oneCell' = true := rfl
@[go_sem] theorem vcells_ptr (a : Option Addr) : (Value.pointer a).cells = #[.pointer a] := rfl
@[go_sem] theorem oneC_map (a : Option Nat) : (Value.map a).oneCell' = true := rfl
@[go_sem] theorem vcells_map (a : Option Nat) : (Value.map a).cells = #[.map a] := rfl
@[go_sem] theorem vcells_agg (cs : Array Value) : (Value.agg cs).cells = cs := rfl
@[go_sem] theorem zeroD_int (k : IntKind) (z : Int) : zeroD (.int k z) = constD (.int k z) := rfl
@[go_sem] theorem zeroD_bool (b : Bool) : zeroD (.bool b) = constD (.bool b) := rfl
@[go_sem] theorem zeroD_str (s : ByteArray) : zeroD (.string s) = constD (.string s) := rfl
@[go_sem] theorem zeroD_slice (a : Option Addr) (l c : Nat) : zeroD (.slice a l c) = constD (.slice a l c) := rfl
@[go_sem] theorem zeroD_nilFunc  : zeroD (.nilFunc) = constD (.nilFunc) := rfl
@[go_sem] theorem zeroD_nilIface  : zeroD (.nilIface) = constD (.nilIface) := rfl
@[go_sem] theorem zeroD_ptr (a : Option Addr) : zeroD (.pointer a) = constD (.pointer a) := rfl
@[go_sem] theorem zeroD_map (a : Option Nat) : zeroD (.map a) = constD (.map a) := rfl
@[go_sem] theorem zeroD_agg (cs : Array Value) : zeroD (.agg cs) = .agg (cs.toList.map constD) := rfl
@[go_sem] theorem toV_v (x : Value) : toV (.d (.v x)) = some x := rfl
@[go_sem] theorem toV_agg (cs : List DVal) : toV (.d (.agg cs)) = (toVc cs).map fun vs => .agg ⟨vs⟩ := rfl
@[go_sem] theorem toV_nils : toV .nils = some (.slice none 0 0) := rfl
@[go_sem] theorem toV_list (xs : List DVal) : toV (.d (.list xs)) = none := rfl
@[go_sem] theorem boolOf_b (b : Bool) : boolOf (.d (.v (.bool b))) = some b := rfl
@[go_sem] theorem intOfA_i (k : IntKind) (z : Int) : intOfA (.d (.v (.int k z))) = some z := rfl
@[go_sem] theorem avCells_agg (cs : List DVal) : avCells (.d (.agg cs)) = some (cs.map .d) := rfl
@[go_sem] theorem avCells_v (x : Value) : avCells (.d (.v x)) = some [.d (.v x)] := rfl
@[go_sem] theorem avCells_list (x : List DVal) : avCells (.d (.list x)) = some [.d (.list x)] := rfl
@[go_sem] theorem avCells_nils  : avCells (.nils) = some [.nils] := rfl
@[go_sem] theorem avCells_ptr (l t off : Nat) : avCells (.ptr l t off) = some [.ptr l t off] := rfl
@[go_sem] theorem avCells_ref (l t n : Nat) : avCells (.ref l t n) = some [.ref l t n] := rfl
@[go_sem] theorem avCells_clo (f : FuncId) (xs : List AVal) : avCells (.clo f xs) = some [.clo f xs] := rfl
@[go_sem] theorem avCells_cptr (xs : List DVal) : avCells (.cptr xs) = some [.cptr xs] := rfl
def frzRef (σ : St) (l t n : Nat) : AObj → Option (DVal × St)
  | .arr _ xs => bif decide (l ≤ σ.lev) && (n == xs.length) then some (.list xs, { σ with H := σ.H.set l t (.frz xs) }) else none
  | .frz xs => bif n == xs.length then some (.list xs, σ) else none
  | _ => none
@[go_sem] theorem frzV_d (x : DVal) : frzV σ (.d x) = some (x, σ) := rfl
@[go_sem] theorem frzV_nils : frzV σ .nils = some (.list [], σ) := rfl
@[go_sem] theorem frzV_ref (l t n : Nat) : frzV σ (.ref l t n) = frzRef σ l t n (σ.H l t) := by simp only [frzV, frzRef, nble, nbeq]; cases σ.H l t <;> rfl
@[go_sem] theorem frzRef_arr (l t n sz : Nat) (xs : List DVal) : frzRef σ l t n (.arr sz xs) = bif decide (l ≤ σ.lev) && (n == xs.length) then some (.list xs, { σ with H := σ.H.set l t (.frz xs) }) else none := rfl
@[go_sem] theorem frzRef_frz (l t n : Nat) (xs : List DVal) : frzRef σ l t n (.frz xs) = bif n == xs.length then some (.list xs, σ) else none := rfl
def ldPtr (σ : St) (dst : Option Tmp) (n : Nat) (g : Bool) (off : Nat) : AObj → Option St
  | .box cs => (ldCells g n σ (cs.drop off)).map fun p => p.2.put dst p.1
  | _ => none
def ldElt (σ : St) (dst : Option Tmp) (n : Nat) (g : Bool) (k i j : Nat) : AObj → Option St
  | .arr _ xs => bif k == xs.length then (xs[i]?).bind fun e => (ldData g n (e.cells.drop j)).map fun y => σ.put dst (.d y) else none
  | .frz xs => bif k == xs.length then (xs[i]?).bind fun e => (ldData g n (e.cells.drop j)).map fun y => σ.put dst (.d y) else none
  | _ => none
def ldX (σ : St) (dst : Option Tmp) (n : Nat) (g : Bool) : AVal → Option St
  | .ptr l t off => ldPtr σ dst n g off (σ.H l t)
  | .cptr cs => (ldData g n cs).map fun y => σ.put dst (.d y)
  | .elt l t k i j => ldElt σ dst n g k i j (σ.H l t)
  | _ => none
@[go_sem] theorem stLoad_eq (x : AVal) : stLoad P σ dst ty x = (szOf P ty).bind fun n => (aggOf P ty).bind fun g => ldX σ dst n g x := by
  unfold stLoad
  cases szOf P ty with
  | none => rfl
  | some n =>
    simp only [Option.bind_some]
    cases aggOf P ty with
    | none => rfl
    | some g =>
      simp only [Option.bind_some, nbeq]
      cases x <;> simp only [ldX, ldPtr, ldElt] <;> (rename_i l t _; try cases σ.H l t) <;> rfl
@[go_sem] theorem ldX_ptr (n : Nat) (g : Bool) (l t off : Nat) : ldX σ dst n g (.ptr l t off) = ldPtr σ dst n g off (σ.H l t) := rfl
@[go_sem] theorem ldX_cptr (n : Nat) (g : Bool) (cs : List DVal) : ldX σ dst n g (.cptr cs) = (ldData g n cs).map fun y => σ.put dst (.d y) := rfl
@[go_sem] theorem ldX_elt (n : Nat) (g : Bool) (l t k i j : Nat) : ldX σ dst n g (.elt l t k i j) = ldElt σ dst n g k i j (σ.H l t) := rfl
@[go_sem] theorem ldPtr_box (n : Nat) (g : Bool) (off : Nat) (cs : List AVal) : ldPtr σ dst n g off (.box cs) = (ldCells g n σ (cs.drop off)).map fun p => p.2.put dst p.1 := rfl
@[go_sem] theorem ldElt_arr (n : Nat) (g : Bool) (k i j sz : Nat) (xs : List DVal) : ldElt σ dst n g k i j (.arr sz xs) = bif k == xs.length then (xs[i]?).bind fun e => (ldData g n (e.cells.drop j)).map fun y => σ.put dst (.d y) else none := rfl
@[go_sem] theorem ldElt_frz (n : Nat) (g : Bool) (k i j : Nat) (xs : List DVal) : ldElt σ dst n g k i j (.frz xs) = bif k == xs.length then (xs[i]?).bind fun e => (ldData g n (e.cells.drop j)).map fun y => σ.put dst (.d y) else none := rfl
def stPtr (P : Program) (σ : St) (dst : Option Tmp) (ty l t off : Nat) (ys : List AVal) : AObj → Option St
  | .box cs => bif (szOf P ty).any (fun n => ys.length == n) && decide (l ≤ σ.lev) && AVal.belL (l + 1) ys && decide (off + ys.length ≤ cs.length) then
      some (St.put { σ with H := σ.H.set l t (.box (cs.take off ++ ys ++ cs.drop (off + ys.length))) } dst .any) else none
  | _ => none
def stElt (P : Program) (σ : St) (lev : Nat) (dst : Option Tmp) (ty l t k i j : Nat) (y : DVal) : AObj → Option St
  | .arr sz xs => (xs[i]?).bind fun e => bif (szOf P ty).any (fun n => y.cells.length == n) && (k == xs.length) && decide (l ≤ lev) && decide (j + y.cells.length ≤ sz) then
      some (St.put { σ with H := σ.H.set l t (.arr sz (xs.set i (newElem e y j))) } dst .any) else none
  | _ => none
def stX (P : Program) (σ : St) (dst : Option Tmp) (ty : TypeId) (y : AVal) : AVal → Option St
  | .ptr l t off => (avCells y).bind fun ys => stPtr P σ dst ty l t off ys (σ.H l t)
  | .elt l t k i j => (frzV σ y).bind fun p => stElt P p.2 σ.lev dst ty l t k i j p.1 (p.2.H l t)
  | _ => none
@[go_sem] theorem stStore_eq (x y : AVal) : stStore P σ dst ty x y = stX P σ dst ty y x := by
  have e0 : ∀ m : Nat, Nat.beq m = fun n => m == n := fun m => by funext n; exact nbeq m n
  unfold stStore
  cases x <;> simp only [stX, stPtr, stElt]
  case ptr l t off =>
    cases σ.H l t <;> simp only [nble, e0]
    all_goals (cases avCells y <;> rfl)
  case elt l t k i j =>
    congr 1
    funext p
    cases p.2.H l t <;> simp only [nble, e0]
@[go_sem] theorem stX_ptr (y : AVal) (l t off : Nat) : stX P σ dst ty y (.ptr l t off) = (avCells y).bind fun ys => stPtr P σ dst ty l t off ys (σ.H l t) := rfl
@[go_sem] theorem stX_elt (y : AVal) (l t k i j : Nat) : stX P σ dst ty y (.elt l t k i j) = (frzV σ y).bind fun p => stElt P p.2 σ.lev dst ty l t k i j p.1 (p.2.H l t) := rfl
@[go_sem] theorem stPtr_box (l t off : Nat) (ys cs : List AVal) : stPtr P σ dst ty l t off ys (.box cs) = bif (szOf P ty).any (fun n => ys.length == n) && decide (l ≤ σ.lev) && AVal.belL (l + 1) ys && decide (off + ys.length ≤ cs.length) then some (St.put { σ with H := σ.H.set l t (.box (cs.take off ++ ys ++ cs.drop (off + ys.length))) } dst .any) else none := rfl
@[go_sem] theorem stElt_arr (lev l t k i j : Nat) (y : DVal) (sz : Nat) (xs : List DVal) : stElt P σ lev dst ty l t k i j y (.arr sz xs) = (xs[i]?).bind fun e => bif (szOf P ty).any (fun n => y.cells.length == n) && (k == xs.length) && decide (l ≤ lev) && decide (j + y.cells.length ≤ sz) then some (St.put { σ with H := σ.H.set l t (.arr sz (xs.set i (newElem e y j))) } dst .any) else none := rfl
def faX (σ : St) (dst : Option Tmp) (o : Nat) : AVal → Option St
  | .ptr l t off => some (σ.put dst (.ptr l t (off + o)))
  | .elt l t k i j => some (σ.put dst (.elt l t k i (j + o)))
  | .cptr cs => bif decide (o ≤ cs.length) then some (σ.put dst (.cptr (cs.drop o))) else none
  | _ => none
@[go_sem] theorem stFieldA_eq (s f : Nat) (x : AVal) : stFieldA P σ dst s f x = (fldOf P s f).bind fun p => (szOf P p.2).bind fun n => bif n == 0 then none else faX σ dst p.1 x := by unfold stFieldA; simp only [nbeq]; congr 1; funext p; congr 1; funext n; congr 1; cases x <;> simp only [faX, nble]
@[go_sem] theorem faX_ptr (o l t off : Nat) : faX σ dst o (.ptr l t off) = some (σ.put dst (.ptr l t (off + o))) := rfl
@[go_sem] theorem faX_elt (o l t k i j : Nat) : faX σ dst o (.elt l t k i j) = some (σ.put dst (.elt l t k i (j + o))) := rfl
@[go_sem] theorem faX_cptr (o : Nat) (cs : List DVal) : faX σ dst o (.cptr cs) = bif decide (o ≤ cs.length) then some (σ.put dst (.cptr (cs.drop o))) else none := rfl
@[go_sem] theorem stField_eq (s f : Nat) (cs : List DVal) : stField P σ dst s f (.d (.agg cs)) = (fldOf P s f).bind fun p => (szOf P p.2).bind fun n => (aggOf P p.2).bind fun g => (ldData g n (cs.drop p.1)).map fun y => σ.put dst (.d y) := rfl
def ixRef (σ : St) (dst : Option Tmp) (n : Nat) (z : Int) (l s k : Nat) : AObj → Option St
  | .arr sz xs => bif (k == xs.length) && (sz == n) && decide (z.toNat < k) then some (σ.put dst (.elt l s k z.toNat 0)) else none
  | .frz xs => (xs[z.toNat]?).bind fun y => bif (k == xs.length) && (y.cells.length == n) then some (σ.put dst (.cptr y.cells)) else none
  | _ => none
def ixX (σ : St) (dst : Option Tmp) (n : Nat) (z : Int) : AVal → Option St
  | .d (.list xs) => (xs[z.toNat]?).bind fun y => bif y.cells.length == n then some (σ.put dst (.cptr y.cells)) else none
  | .ref l s k => ixRef σ dst n z l s k (σ.H l s)
  | _ => none
@[go_sem] theorem stIndexA_eq (t : TypeId) (x ix : AVal) : stIndexA P σ dst t x ix = (elemOf' P t).bind fun e => (szOf P e).bind fun n => (intOfA ix).bind fun z => bif decide (0 ≤ z) then ixX σ dst n z x else none := by
  unfold stIndexA
  congr 1; funext e; congr 1; funext n; congr 1; funext z; congr 1
  cases x <;> simp only [ixX, ixRef, nbeq, nblt]
  case ref l s k => cases σ.H l s <;> rfl
  case d x => cases x <;> rfl
@[go_sem] theorem ixX_list (n : Nat) (z : Int) (xs : List DVal) : ixX σ dst n z (.d (.list xs)) = (xs[z.toNat]?).bind fun y => bif y.cells.length == n then some (σ.put dst (.cptr y.cells)) else none := rfl
@[go_sem] theorem ixX_ref (n : Nat) (z : Int) (l s k : Nat) : ixX σ dst n z (.ref l s k) = ixRef σ dst n z l s k (σ.H l s) := rfl
@[go_sem] theorem ixRef_arr (n : Nat) (z : Int) (l s k sz : Nat) (xs : List DVal) : ixRef σ dst n z l s k (.arr sz xs) = bif (k == xs.length) && (sz == n) && decide (z.toNat < k) then some (σ.put dst (.elt l s k z.toNat 0)) else none := rfl
@[go_sem] theorem ixRef_frz (n : Nat) (z : Int) (l s k : Nat) (xs : List DVal) : ixRef σ dst n z l s k (.frz xs) = (xs[z.toNat]?).bind fun y => bif (k == xs.length) && (y.cells.length == n) then some (σ.put dst (.cptr y.cells)) else none := rfl
@[go_sem] theorem lenA_list (xs : List DVal) : lenA (.d (.list xs)) = some xs.length := rfl
@[go_sem] theorem lenA_ref (l t n : Nat) : lenA (.ref l t n) = some n := rfl
@[go_sem] theorem lenA_nils : lenA .nils = some 0 := rfl
def exX (σ : St) (dst : Option Tmp) (i : Nat) : AVal → Option St
  | .tup xs => xs[i]?.map fun y => σ.put dst y
  | _ => none
@[go_sem] theorem stExtract_eq (x : Operand) (i : Nat) : stExtract σ dst x i = exX σ dst i (evO σ x) := by unfold stExtract exX; cases evO σ x <;> rfl
@[go_sem] theorem exX_tup (i : Nat) (xs : List AVal) : exX σ dst i (.tup xs) = xs[i]?.map fun y => σ.put dst y := rfl
def nilX (σ : St) (dst : Option Tmp) : AVal → Option St
  | .ptr l t off => some (σ.put dst (.ptr l t off))
  | .elt l t n i j => some (σ.put dst (.elt l t n i j))
  | .cptr cs => some (σ.put dst (.cptr cs))
  | _ => none
@[go_sem] theorem stNil_eq (x : Operand) : stNil σ dst x = nilX σ dst (evO σ x) := by unfold stNil nilX; cases evO σ x <;> rfl
@[go_sem] theorem nilX_ptr (l t off : Nat) : nilX σ dst (.ptr l t off) = some (σ.put dst (.ptr l t off)) := rfl
@[go_sem] theorem nilX_elt (l t n i j : Nat) : nilX σ dst (.elt l t n i j) = some (σ.put dst (.elt l t n i j)) := rfl
@[go_sem] theorem nilX_cptr (cs : List DVal) : nilX σ dst (.cptr cs) = some (σ.put dst (.cptr cs)) := rfl
def srcRef (n : Nat) : AObj → Option (List DVal)
  | .arr _ xs => bif n == xs.length then some xs else none
  | .frz xs => bif n == xs.length then some xs else none
  | _ => none
@[go_sem] theorem srcL_list (xs : List DVal) : srcL σ (.d (.list xs)) = some xs := rfl
@[go_sem] theorem srcL_str (s : ByteArray) : srcL σ (.d (.v (.string s))) = some (s.data.toList.map byteD) := rfl
@[go_sem] theorem srcL_nils : srcL σ .nils = some [] := rfl
@[go_sem] theorem srcL_ref (l t n : Nat) : srcL σ (.ref l t n) = srcRef n (σ.H l t) := by simp only [srcL, srcRef, nbeq]; cases σ.H l t <;> rfl
@[go_sem] theorem srcRef_arr (n sz : Nat) (xs : List DVal) : srcRef n (.arr sz xs) = bif n == xs.length then some xs else none := rfl
@[go_sem] theorem srcRef_frz (n : Nat) (xs : List DVal) : srcRef n (.frz xs) = bif n == xs.length then some xs else none := rfl
def appRef (P : Program) (σ : St) (d : Nat) (u : TypeId) (ys : List DVal) (sz by_ : Nat) (z : Value) (l s k : Nat) : AObj → Option St
  | .arr sz' xs => bif appOk' P u sz by_ z (xs.length + ys.length) ys && (k == xs.length) && (sz' == sz) && decide (l ≤ σ.lev) then some (St.put { σ with H := σ.H.set l s (.arr sz' (xs ++ ys)) } (some d) (.ref l s (xs.length + ys.length))) else none
  | _ => none
@[go_sem] theorem stApp_nils (d u : Nat) (ys : List DVal) (sz by_ : Nat) (z : Value) : stApp P σ d u .nils ys sz by_ z = bif appOk' P u sz by_ z ys.length ys then some (σ.alloc d (.arr sz ys) (.ref σ.lev d ys.length)) else none := rfl
@[go_sem] theorem stApp_ref (d u : Nat) (ys : List DVal) (sz by_ : Nat) (z : Value) (l s k : Nat) : stApp P σ d u (.ref l s k) ys sz by_ z = appRef P σ d u ys sz by_ z l s k (σ.H l s) := by simp only [stApp, appRef]
@[go_sem] theorem appRef_arr (d u : Nat) (ys : List DVal) (sz by_ : Nat) (z : Value) (l s k sz' : Nat) (xs : List DVal) : appRef P σ d u ys sz by_ z l s k (.arr sz' xs) = bif appOk' P u sz by_ z (xs.length + ys.length) ys && (k == xs.length) && (sz' == sz) && decide (l ≤ σ.lev) then some (St.put { σ with H := σ.H.set l s (.arr sz' (xs ++ ys)) } (some d) (.ref l s (xs.length + ys.length))) else none := rfl
@[go_sem] theorem optInt_none (d : Int) : optInt σ d none = some d := rfl
@[go_sem] theorem optInt_some (d : Int) (x : Operand) : optInt σ d (some x) = intOfA (evO σ x) := rfl
@[go_sem] theorem optV_none : optV σ none = some none := rfl
@[go_sem] theorem optV_some (x : Operand) : optV σ (some x) = (toV (evO σ x)).map some := rfl
def slX (σ0 : St) (σ : St) (dst : Option Tmp) (n : Nat) (lo hi : Option Operand) : DVal → Option St
  | .list xs => (optInt σ0 0 lo).bind fun l => (optInt σ0 xs.length hi).bind fun h => bif decide (0 ≤ l) && decide (l ≤ h) && decide (h ≤ xs.length) && allLen n xs then some (σ.put dst (.d (.list ((xs.drop l.toNat).take (h.toNat - l.toNat))))) else none
  | _ => none
@[go_sem] theorem stSliceL_eq (t : TypeId) (x : AVal) (lo hi : Option Operand) : stSliceL P σ dst t x lo hi = (elemOf' P t).bind fun e => (szOf P e).bind fun n => (frzV σ x).bind fun p => slX σ p.2 dst n lo hi p.1 := by
  unfold stSliceL
  rfl
@[go_sem] theorem slX_list (σ' : St) (n : Nat) (lo hi : Option Operand) (xs : List DVal) : slX σ σ' dst n lo hi (.list xs) = (optInt σ 0 lo).bind fun l => (optInt σ xs.length hi).bind fun h => bif decide (0 ≤ l) && decide (l ≤ h) && decide (h ≤ xs.length) && allLen n xs then some (σ'.put dst (.d (.list ((xs.drop l.toNat).take (h.toNat - l.toNat))))) else none := rfl
noncomputable def cvX (P : Program) (σ : St) (dst : Option Tmp) (s t : TypeId) (x : AVal) : Option Value → Option St
  | some (.string _) => bif isStr P s && isU8 P t then onDst dst (fun d => stToBytes P σ d s t x) else scal1 σ dst x (convV P s t)
  | some (.int _ _) => scal1 σ dst x (convV P s t)
  | some (.bool _) => scal1 σ dst x (convV P s t)
  | some (.float _ _) => scal1 σ dst x (convV P s t)
  | _ => stToStr P σ dst s t x
@[go_sem] theorem stConv_eq (s t : TypeId) (x : Operand) : stConv P σ dst s t x = cvX P σ dst s t (evO σ x) (toV (evO σ x)) := by unfold stConv cvX onDst; split <;> first | rfl | simp_all
@[go_sem] theorem cvX_str (s t : TypeId) (x : AVal) (u : ByteArray) : cvX P σ dst s t x (some (.string u)) = bif isStr P s && isU8 P t then onDst dst (fun d => stToBytes P σ d s t x) else scal1 σ dst x (convV P s t) := rfl
@[go_sem] theorem cvX_int (s t : TypeId) (x : AVal) (k : IntKind) (z : Int) : cvX P σ dst s t x (some (.int k z)) = scal1 σ dst x (convV P s t) := rfl
@[go_sem] theorem cvX_none (s t : TypeId) (x : AVal) : cvX P σ dst s t x none = stToStr P σ dst s t x := rfl
@[go_sem] theorem cvX_slice (s t : TypeId) (x : AVal) (a : Option Addr) (n c : Nat) : cvX P σ dst s t x (some (.slice a n c)) = stToStr P σ dst s t x := rfl
@[go_sem] theorem stToBytes_s (d s t : Nat) (u : ByteArray) : stToBytes P σ d s t (.d (.v (.string u))) = bif isStr P s && isU8 P t then some (σ.alloc d (.arr 1 (u.data.toList.map byteD)) (.ref σ.lev d u.size)) else none := rfl
def notV : AVal → Bool
  | .d (.v _) => false
  | _ => true
@[go_sem] theorem stToStr_eq (s t : TypeId) (x : AVal) : stToStr P σ dst s t x = (srcL σ x).bind fun ys => (bytesOf ys).bind fun bs => bif isU8 P s && isStr P t && notV x then some (σ.put dst (.d (.v (.string ⟨bs.toArray⟩)))) else none := by unfold stToStr notV; first | rfl | (congr 1)
@[go_sem] theorem notV_list (xs : List DVal) : notV (.d (.list xs)) = true := rfl
@[go_sem] theorem notV_ref (l t n : Nat) : notV (.ref l t n) = true := rfl
@[go_sem] theorem notV_nils : notV .nils = true := rfl
@[go_sem] theorem stCallB_len (x : Operand) (t : TypeId) : stCallB P σ dst ty .len [x] [t] = bif isStr P t then stBuiltin P σ dst .len #[t] ty #[x] else stLen P σ dst t (evO σ x) := rfl
@[go_sem] theorem stCallB_append (x y : Operand) (t u : TypeId) : stCallB P σ dst ty .append [x, y] [t, u] = onDst dst (fun d => stAppend P σ d t u (evO σ x) (evO σ y)) := by cases dst <;> rfl
@[go_sem] theorem stCallB_max (xs : List Operand) (ts : List TypeId) : stCallB P σ dst ty .max xs ts = stBuiltin P σ dst .max ts.toArray ty xs.toArray := by unfold stCallB; split <;> simp_all
@[go_sem] theorem stCallB_min (xs : List Operand) (ts : List TypeId) : stCallB P σ dst ty .min xs ts = stBuiltin P σ dst .min ts.toArray ty xs.toArray := by unfold stCallB; split <;> simp_all
@[go_sem] theorem retVal_1 (x : DVal) : retVal [x] = .d x := rfl
@[go_sem] theorem retVal_0 : retVal [] = .tup [] := rfl
@[go_sem] theorem retVal_2 (x y : DVal) (r : List DVal) : retVal (x :: y :: r) = .tup (.d x :: .d y :: r.map .d) := rfl
def resBox (P : Program) (σ : St) (ty off : Nat) (r : List ResultVar) : AObj → Option (List DVal × St)
  | .box cs => (szOf P ty).bind fun n => (aggOf P ty).bind fun g => (ldCells g n σ (cs.drop off)).bind fun y => (frzV y.2 y.1).bind fun p => (resV P p.2 r).map fun q => (p.1 :: q.1, q.2)
  | _ => none
def resC (P : Program) (σ : St) (ty : Nat) (r : List ResultVar) : AVal → Option (List DVal × St)
  | .ptr l t off => resBox P σ ty off r (σ.H l t)
  | _ => none
@[go_sem] theorem resV_nil : resV P σ [] = some ([], σ) := by simp only [resV]
@[go_sem] theorem resV_tmp (t : Nat) (r : List ResultVar) : resV P σ (.tmp t :: r) = (frzV σ (lk σ.T t)).bind fun p => (resV P p.2 r).map fun q => (p.1 :: q.1, q.2) := by simp only [resV]
@[go_sem] theorem resV_cell (a t : Nat) (r : List ResultVar) : resV P σ (.cell a t :: r) = resC P σ t r (lk σ.T a) := by simp only [resV]; cases lk σ.T a <;> simp only [resC, resBox]; all_goals (rename_i l t off; cases σ.H l t <;> rfl)
@[go_sem] theorem resC_ptr (t : Nat) (r : List ResultVar) (l s off : Nat) : resC P σ t r (.ptr l s off) = resBox P σ t off r (σ.H l s) := rfl
@[go_sem] theorem resBox_box (t off : Nat) (r : List ResultVar) (cs : List AVal) : resBox P σ t off r (.box cs) = (szOf P t).bind fun n => (aggOf P t).bind fun g => (ldCells g n σ (cs.drop off)).bind fun y => (frzV y.2 y.1).bind fun p => (resV P p.2 r).map fun q => (p.1 :: q.1, q.2) := rfl
@[go_sem] theorem AThen_exit (id : Nat) (N : St → Prop) (Q : Exit → St → Prop) : AThen N Q (.exit id) σ = Q (.exit id) σ := rfl
@[go_sem] theorem AThen_ret (N : St → Prop) (Q : Exit → St → Prop) : AThen N Q (.ret) σ = Q (.ret) σ := rfl
@[go_sem] theorem AThen_goto (id : Nat) (N : St → Prop) (Q : Exit → St → Prop) : AThen N Q (.goto id) σ = Q (.goto id) σ := rfl
@[go_sem] theorem AThen_normal (N : St → Prop) (Q : Exit → St → Prop) : AThen N Q .normal σ = N σ := rfl
@[go_sem] theorem AThen_normal' (N : St → Prop) (Q : Exit → St → Prop) : AThen N Q .normal = N := rfl
@[go_sem] theorem Ends_ret (fn : Func) (lev : Nat) (Q : AVal → Hp → Prop) : Ends P fn lev Q .ret σ = (σ.lev = lev ∧ aRes lev Q (resV P σ fn.results.toList)) := rfl
@[go_sem] theorem Ends_normal (fn : Func) (lev : Nat) (Q : AVal → Hp → Prop) : Ends P fn lev Q .normal σ = (σ.lev = lev ∧ aRes lev Q (resV P σ fn.results.toList)) := rfl
@[go_sem] theorem aRes_some (lev : Nat) (Q : AVal → Hp → Prop) (p : List DVal × St) : aRes lev Q (some p) = Q (retVal p.1) (fun l t => bif Nat.blt l lev then p.2.H l t else .dead) := rfl
@[go_sem] theorem ABlock_exit (i id : Nat) (Q : Exit → St → Prop) : ABlock i Q (.exit id) σ = if id = i then Q .normal σ else Q (.exit id) σ := rfl
@[go_sem] theorem ABlock_normal (i : Nat) (Q : Exit → St → Prop) : ABlock i Q .normal σ = Q .normal σ := rfl
@[go_sem] theorem ABlock_ret (i : Nat) (Q : Exit → St → Prop) : ABlock i Q .ret σ = Q .ret σ := rfl
@[go_sem] theorem ABlock_normal' (i : Nat) (Q : Exit → St → Prop) : ABlock i Q .normal = Q .normal := rfl
@[go_sem] theorem purge_box (l t : Nat) (cs : List AVal) : AObj.purge l t (.box cs) = .box (AVal.purgeL l t cs) := rfl
@[go_sem] theorem purge_arr (l t sz : Nat) (xs : List DVal) : AObj.purge l t (.arr sz xs) = .arr sz xs := rfl
@[go_sem] theorem purge_frz (l t : Nat) (xs : List DVal) : AObj.purge l t (.frz xs) = .frz xs := rfl
@[go_sem] theorem purge_dead (l t : Nat) : AObj.purge l t .dead = .dead := rfl
@[go_sem] theorem dcells_agg (cs : List DVal) : (DVal.agg cs).cells = cs := rfl
@[go_sem] theorem dcells_v (x : Value) : (DVal.v x).cells = [.v x] := rfl
@[go_sem] theorem dcells_list (x : List DVal) : (DVal.list x).cells = [.list x] := rfl
end
attribute [go_sem] stepOp evL lk setT St.put St.alloc purgeT AVal.purge AVal.purgeL toVc scal1 scal2 stPick stFunc stAlloc stBox ldCells ldData frzL newElem stLen stBuiltin toVs stNilSlice stSliceS zipI fillD stBuild
  setAll entry argT scalarA scalarL scalarAL AVal.bel AVal.belL appOk'
  cond_true cond_false Option.bind_some Option.bind_none Option.map_some Option.map_none Option.any_some List.map_cons List.map_nil List.cons_append List.nil_append List.append_nil List.length_cons List.length_nil List.head?_cons List.isEmpty_nil List.take_succ_cons List.take_zero List.drop_succ_cons List.drop_zero List.drop_nil List.take_nil
  List.all_cons List.all_nil List.set_cons_zero List.set_cons_succ List.zip_cons_cons List.zip_nil_left List.zip_nil_right List.getElem?_cons_zero List.getElem?_cons_succ List.replicate_succ List.replicate_zero Bool.and_true Bool.true_and Bool.and_false Bool.false_and Bool.not_true Bool.not_false beq_self_eq_true decide_true decide_false
  List.size_toArray List.getElem?_toArray true_and and_true forall_const
end Go.Fw
/- What an operation touches, and what it does, told without the rest of the state. -/
set_option autoImplicit false
namespace Go.Fw
inductive Cl where
  | pure
  | mem (l t : Nat) (w : Bool)
  | new
def isD : AVal → Bool
  | .d _ => true
  | .nils => true
  | _ => false
def allD : List AVal → Bool
  | [] => true
  | x :: r => isD x && allD r
def datum : AVal → DVal
  | .d x => x
  | _ => .list []
theorem frzV_isD (σ : St) {x : AVal} (h : isD x = true) : frzV σ x = some (datum x, σ) := by cases x <;> first | rfl | cases h
theorem frzL_allD (σ : St) : ∀ {xs : List AVal}, allD xs = true → frzL σ xs = some (xs.map datum, σ)
  | [], _ => rfl
  | x :: r, h => by
    simp only [allD, Bool.and_eq_true] at h
    simp [frzL, frzV_isD σ h.1, frzL_allD σ h.2]
def opVals (σ : St) (op : Op) : List AVal := op.operands.toList.map (evO σ)
def clLoad (P : Program) (H : Hp) (ty : TypeId) : AVal → Option Cl
  | .ptr l t _ => (match H l t with | .box cs => bif (aggOf P ty).any (fun g => !g) || allD cs then some (.mem l t false) else none | _ => none)
  | .elt l t _ _ _ => some (.mem l t false)
  | .cptr _ => some .pure
  | _ => none
def clStore : AVal → AVal → Option Cl
  | .ptr l t _, _ => some (.mem l t true)
  | .elt l t _ _ _, y => bif isD y then some (.mem l t true) else none
  | _, _ => none
def clIdx : AVal → Option Cl
  | .ref l t _ => some (.mem l t false)
  | .d _ => some .pure
  | _ => none
def f1 {α : Type} (g : AVal → Option α) : List AVal → Option α
  | [x] => g x
  | _ => none
def f2 {α : Type} (g : AVal → AVal → Option α) : List AVal → Option α
  | [x, y] => g x y
  | _ => none
def f3 {α : Type} (g : AVal → AVal → AVal → Option α) : List AVal → Option α
  | [x, y, z] => g x y z
  | _ => none
def fc {α : Type} (g : AVal → List AVal → Option α) : List AVal → Option α
  | x :: r => g x r
  | _ => none
theorem f1_some {α : Type} {g : AVal → Option α} {xs : List AVal} {e : α} (h : f1 g xs = some e) : ∃ x, xs = [x] ∧ g x = some e := by
  match xs, h with
  | [x], h => exact ⟨x, rfl, h⟩
theorem f2_some {α : Type} {g : AVal → AVal → Option α} {xs : List AVal} {e : α} (h : f2 g xs = some e) : ∃ x y, xs = [x, y] ∧ g x y = some e := by
  match xs, h with
  | [x, y], h => exact ⟨x, y, rfl, h⟩
theorem f3_some {α : Type} {g : AVal → AVal → AVal → Option α} {xs : List AVal} {e : α} (h : f3 g xs = some e) : ∃ x y z, xs = [x, y, z] ∧ g x y z = some e := by
  match xs, h with
  | [x, y, z], h => exact ⟨x, y, z, rfl, h⟩
theorem fc_some {α : Type} {g : AVal → List AVal → Option α} {xs : List AVal} {e : α} (h : fc g xs = some e) : ∃ x r, xs = x :: r ∧ g x r = some e := by
  match xs, h with
  | x :: r, h => exact ⟨x, r, rfl, h⟩
def clSlice (P : Program) (t : TypeId) (mx : Option Operand) (x : AVal) (_ : List AVal) : Option Cl := match mx with
  | none => bif isStr P t || isD x then some .pure else none
  | some _ => none
def clCall : Callee → Option Cl
  | .builtin .len => some .pure
  | .builtin .min => some .pure
  | .builtin .max => some .pure
  | _ => none
def cls1 (P : Program) (H : Hp) : Op → List AVal → Option Cl
  | .move _ => fun _ => some .pure
  | .assign x => fun _ => some (bif isNilS x then .new else .pure)
  | .pick _ _ _ => fun _ => some .pure
  | .nilCheck _ => fun _ => some .pure
  | .binOp _ _ _ _ _ => fun _ => some .pure
  | .unOp _ _ _ => fun _ => some .pure
  | .fieldAddr _ _ _ => fun _ => some .pure
  | .field _ _ _ => fun _ => some .pure
  | .extract _ _ => fun _ => some .pure
  | .index _ _ _ => fun _ => some .pure
  | .makeFunc _ _ _ => fun _ => some .pure
  | .alloc _ => fun _ => some .new
  | .build _ _ => fun xs => bif allD xs then some .pure else none
  | .buildSlice _ _ _ => fun xs => bif allD xs then some .new else none
  | .load ty _ => f1 (clLoad P H ty)
  | .store _ _ _ => f2 clStore
  | .indexAddr _ _ _ => f2 fun x _ => clIdx x
  | .slice t _ _ _ mx => fc (clSlice P t mx)
  | .call c => fun _ => clCall c.callee
  | _ => fun _ => none
def cls (P : Program) (σ : St) (op : Op) : Option Cl := cls1 P σ.H op (opVals σ op)
structure Eff where
  r : AVal
  up : Option (Nat × Nat × AObj)
  nw : Bool
def Eff.app (e : Eff) (σ : St) (dst : Option Tmp) : St :=
  match e.up with
  | none => σ.put dst e.r
  | some (l, t, ob) => bif e.nw then σ.alloc t ob e.r else St.put { σ with H := σ.H.set l t ob } dst e.r
def pv (r : AVal) : Eff := ⟨r, none, false⟩
def fieldAV (off : Nat) : AVal → Option Eff
  | .ptr l t o => some (pv (.ptr l t (o + off)))
  | .elt l t k i j => some (pv (.elt l t k i (j + off)))
  | .cptr cs => bif Nat.ble off cs.length then some (pv (.cptr (cs.drop off))) else none
  | _ => none
def nilV : AVal → Option Eff
  | .ptr l t off => some (pv (.ptr l t off))
  | .elt l t n i j => some (pv (.elt l t n i j))
  | .cptr cs => some (pv (.cptr cs))
  | _ => none
def fieldV (g : Bool) (n off : Nat) : AVal → Option Eff
  | .d (.agg cs) => (ldData g n (cs.drop off)).map fun y => pv (.d y)
  | _ => none
def extV (i : Nat) : AVal → Option Eff
  | .tup xs => xs[i]?.map pv
  | _ => none
def eltV (g : Bool) (n k i j : Nat) : AObj → Option Eff
  | .arr _ xs => bif Nat.beq k xs.length then (xs[i]?).bind fun e => (ldData g n (e.cells.drop j)).map fun y => pv (.d y) else none
  | .frz xs => bif Nat.beq k xs.length then (xs[i]?).bind fun e => (ldData g n (e.cells.drop j)).map fun y => pv (.d y) else none
  | _ => none
def boxV (g : Bool) (n off : Nat) : AObj → Option Eff
  | .box cs => bif g then (bif Nat.ble n (cs.drop off).length then some (pv (.d (.agg (((cs.drop off).take n).map datum)))) else none) else (cs.drop off).head?.map pv
  | _ => none
def loadV (P : Program) (H : Hp) (ty : TypeId) (x : AVal) : Option Eff :=
  (szOf P ty).bind fun n => (aggOf P ty).bind fun g =>
  match x with
  | .ptr l t off => boxV g n off (H l t)
  | .cptr cs => (ldData g n cs).map fun y => pv (.d y)
  | .elt l t k i j => eltV g n k i j (H l t)
  | _ => none
def stBoxV (P : Program) (lev : Nat) (ty : TypeId) (l t off : Nat) (y : AVal) : AObj → Option Eff
  | .box cs => (avCells y).bind fun ys => bif (szOf P ty).any (Nat.beq ys.length) && Nat.ble l lev && AVal.belL (l + 1) ys && Nat.ble (off + ys.length) cs.length then
      some ⟨.any, some (l, t, .box (cs.take off ++ ys ++ cs.drop (off + ys.length))), false⟩ else none
  | _ => none
def stEltV (P : Program) (lev : Nat) (ty : TypeId) (l t k i j : Nat) (y : DVal) : AObj → Option Eff
  | .arr sz xs => (xs[i]?).bind fun e => bif (szOf P ty).any (Nat.beq y.cells.length) && Nat.beq k xs.length && Nat.ble l lev && Nat.ble (j + y.cells.length) sz then
      some ⟨.any, some (l, t, .arr sz (xs.set i (newElem e y j))), false⟩ else none
  | _ => none
def storeV (P : Program) (H : Hp) (lev : Nat) (ty : TypeId) (x y : AVal) : Option Eff :=
  match x with
  | .ptr l t off => stBoxV P lev ty l t off y (H l t)
  | .elt l t k i j => stEltV P lev ty l t k i j (datum y) (H l t)
  | _ => none
def idxO (l s k n : Nat) (z : Int) : AObj → Option Eff
  | .arr sz xs => bif Nat.beq k xs.length && Nat.beq sz n && Nat.blt z.toNat k then some (pv (.elt l s k z.toNat 0)) else none
  | .frz xs => (xs[z.toNat]?).bind fun y => bif Nat.beq k xs.length && Nat.beq y.cells.length n then some (pv (.cptr y.cells)) else none
  | _ => none
def idxV (P : Program) (H : Hp) (t : TypeId) (x ix : AVal) : Option Eff :=
  (elemOf' P t).bind fun e => (szOf P e).bind fun n => (intOfA ix).bind fun z => bif decide (0 ≤ z) then
  (match x with
  | .d (.list xs) => (xs[z.toNat]?).bind fun y => bif Nat.beq y.cells.length n then some (pv (.cptr y.cells)) else none
  | .ref l s k => idxO l s k n z (H l s)
  | _ => none) else none
/-- The bounds' values. -/
def bnds : Option Operand → Option Operand → List AVal → Option AVal × Option AVal
  | none, none, _ => (none, none)
  | some _, none, [a] => (some a, none)
  | none, some _, [b] => (none, some b)
  | some _, some _, [a, b] => (some a, some b)
  | _, _, _ => (none, none)
def optIV (d : Int) : Option AVal → Option Int
  | none => some d
  | some x => intOfA x
def optVV : Option AVal → Option (Option Value)
  | none => some none
  | some x => (toV x).map some
def slLV (P : Program) (t : TypeId) (x : DVal) (lo hi : Option AVal) : Option Eff :=
  (elemOf' P t).bind fun e => (szOf P e).bind fun n =>
  match x with
  | .list xs => (optIV 0 lo).bind fun l => (optIV xs.length hi).bind fun h =>
    bif decide (0 ≤ l) && decide (l ≤ h) && decide (h ≤ xs.length) && allLen n xs then some (pv (.d (.list ((xs.drop l.toNat).take (h.toNat - l.toNat))))) else none
  | _ => none
noncomputable def slSV (P : Program) (t : TypeId) (x : AVal) (lo hi : Option AVal) : Option Eff :=
  (toV x).bind fun u => (optVV lo).bind fun l => (optVV hi).bind fun h => (sliceV P t u l h).map fun r => pv (ofConst r)
noncomputable def biV (P : Program) (b : Builtin) (ts : Array TypeId) (ty : TypeId) (cs : Array Bool) (xs : List AVal) : Option Eff := (toVs xs).bind fun us => (builtinV P b ts ty cs us).map fun r => pv (ofConst r)
noncomputable def callBV (P : Program) (ty : TypeId) (b : Builtin) (os : List Operand) (xs : List AVal) (ts : List TypeId) : Option Eff :=
  match b, os, xs, ts with
  | .len, [o], [x], [t] => bif isStr P t then biV P .len #[t] ty (#[o].map isC) [x] else (elemOf' P t).bind fun _ => (lenA x).map fun (n : Nat) => pv (.d (.v (.int .i64 n)))
  | .max, os, xs, ts => biV P .max ts.toArray ty (os.toArray.map isC) xs
  | .min, os, xs, ts => biV P .min ts.toArray ty (os.toArray.map isC) xs
  | _, _, _, _ => none
def onDstE (dst : Option Tmp) (f : Nat → Option Eff) : Option Eff := match dst with | some d => f d | none => none
noncomputable def ev1 (P : Program) (H : Hp) (lev : Nat) (dst : Option Tmp) (ty : TypeId) : Op → List AVal → Option Eff
  | .move _ => f1 fun x => some (pv x)
  | .assign o => f1 fun x => bif isNilS o then onDstE dst (fun d => (elemOf' P ty).bind fun e => (szOf P e).map fun n => ⟨.ref lev d 0, some (lev, d, .arr n []), true⟩) else some (pv x)
  | .pick _ _ _ => f3 fun c x y => (boolOf c).map fun b => pv (bif b then x else y)
  | .nilCheck _ => f1 nilV
  | .binOp op t a b _ => f2 fun x y => (toV x).bind fun u => (toV y).bind fun v => (binV P op t a b u v).map fun r => pv (ofConst r)
  | .unOp op _ _ => f1 fun x => (toV x).bind fun u => (unV P op u).map fun r => pv (ofConst r)
  | .index t _ _ => f2 fun x y => (toV x).bind fun u => (toV y).bind fun v => (indexV P t u v).map fun r => pv (ofConst r)
  | .fieldAddr s _ f => f1 fun x => (fldOf P s f).bind fun p => (szOf P p.2).bind fun n => bif Nat.beq n 0 then none else fieldAV p.1 x
  | .field s _ f => f1 fun x => (fldOf P s f).bind fun p => (szOf P p.2).bind fun n => (aggOf P p.2).bind fun g => fieldV g n p.1 x
  | .extract _ i => f1 (extV i)
  | .makeFunc (.func f) first _ => fun xs => bif first.toList.isEmpty then some (pv (.clo f xs)) else none
  | .build t ps => fun xs => (zeroC P t).bind fun zs => (placesOf P t).bind fun places =>
      bif zs.all (·.oneCell') then (fillD (places[·]?) (zs.map constD) (zipI ps.toList (xs.map datum))).map fun cs => pv (.d (.agg cs)) else none
  | .buildSlice t len ps => fun xs => onDstE dst fun d => (elemOf' P t).bind fun e => (P.info? e).bind fun i => (i.zero).bind fun z =>
      bif z.cells.toList.all (·.oneCell') && Nat.beq z.cells.size i.size && Nat.blt 0 i.size && Nat.ble (len * i.size) 16777216 && (zipI ps.toList (xs.map datum)).all (fun p => Nat.blt p.1 len && Nat.beq p.2.cells.length i.size) then
        some ⟨.ref lev d len, some (lev, d, .arr i.size (setAll (List.replicate len (zeroD z)) (zipI ps.toList (xs.map datum)))), true⟩ else none
  | .alloc t => fun _ => onDstE dst fun d => (zeroC P t).bind fun vs => bif vs.all (·.oneCell') then some ⟨.ptr lev d 0, some (lev, d, .box (AVal.purgeL lev d (vs.map cellC))), true⟩ else none
  | .load ty _ => f1 (loadV P H ty)
  | .store ty _ _ => f2 (storeV P H lev ty)
  | .indexAddr t _ _ => f2 (idxV P H t)
  | .slice t _ lo hi _ => fc fun x r => bif isStr P t then slSV P t x (bnds lo hi r).1 (bnds lo hi r).2 else slLV P t (datum x) (bnds lo hi r).1 (bnds lo hi r).2
  | .call { callee := .builtin b, args, argTypes } => fun xs => callBV P ty b args.toList xs argTypes.toList
  | _ => fun _ => none

/-! ### The same as the step -/
section
variable {P : Program} {σ : St} {dst : Option Tmp} {ty : TypeId}
theorem pv_app (r : AVal) : (pv r).app σ dst = σ.put dst r := rfl
theorem scal1_ev (x : AVal) (f : Value → Option Value) : scal1 σ dst x f = ((toV x).bind fun u => (f u).map fun r => pv (ofConst r)).map (·.app σ dst) := by
  unfold scal1
  cases toV x with
  | none => rfl
  | some u => simp only [Option.bind_some]; cases f u <;> rfl
theorem scal2_ev (x y : AVal) (f : Value → Value → Option Value) : scal2 σ dst x y f = ((toV x).bind fun u => (toV y).bind fun v => (f u v).map fun r => pv (ofConst r)).map (·.app σ dst) := by
  unfold scal2
  cases toV x with
  | none => rfl
  | some u =>
    simp only [Option.bind_some]
    cases toV y with
    | none => rfl
    | some v => simp only [Option.bind_some]; cases f u v <;> rfl
theorem builtin_ev (b : Builtin) (ts : Array TypeId) (xs : Array Operand) : stBuiltin P σ dst b ts ty xs = (biV P b ts ty (xs.map isC) (xs.toList.map (evO σ))).map (·.app σ dst) := by
  unfold stBuiltin biV
  cases toVs (xs.toList.map (evO σ)) with
  | none => rfl
  | some us => simp only [Option.bind_some]; cases builtinV P b ts ty (xs.map isC) us <;> rfl
theorem load_ev {t : TypeId} {x : AVal} (hc : ∃ c, clLoad P σ.H t x = some c) : stLoad P σ dst t x = (loadV P σ.H t x).map (·.app σ dst) := by
  obtain ⟨c, hc⟩ := hc
  unfold stLoad loadV
  cases hn : szOf P t with
  | none => rfl
  | some n =>
  cases hg : aggOf P t with
  | none => rfl
  | some g =>
  simp only [Option.bind_some]
  cases x with
  | ptr l s off =>
    simp only [clLoad] at hc
    simp only
    cases hO : σ.H l s with
    | box cs =>
      rw [hO] at hc
      simp only [hg, Option.any_some] at hc
      cases g with
      | false => simp only [ldCells, boxV, cond_false]; cases (cs.drop off).head? <;> rfl
      | true =>
        simp only [Bool.not_true, Bool.false_or] at hc
        cases ha : allD cs with
        | false => rw [ha] at hc; cases hc
        | true =>
          simp only [ldCells, boxV, cond_true]
          cases Nat.ble n (cs.drop off).length with
          | false => rfl
          | true =>
            have hb : ∀ (xs : List AVal), allD xs = true ↔ ∀ x ∈ xs, isD x = true := by
              intro xs
              induction xs with
              | nil => simp [allD]
              | cons x r ih => simp [allD, ih]
            have h2 : allD ((cs.drop off).take n) = true := (hb _).2 fun x hx => (hb _).1 ha x (List.mem_of_mem_drop (List.mem_of_mem_take hx))
            simp only [cond_true, frzL_allD σ h2]
            rfl
    | _ => rfl
  | cptr cs => simp only; cases ldData g n cs <;> rfl
  | elt l s k i j =>
    simp only
    cases σ.H l s with
    | arr sz xs =>
      simp only [eltV]
      cases Nat.beq k xs.length with
      | false => rfl
      | true =>
        simp only [cond_true]
        cases xs[i]? with
        | none => rfl
        | some e => simp only [Option.bind_some]; cases ldData g n (e.cells.drop j) <;> rfl
    | frz xs =>
      simp only [eltV]
      cases Nat.beq k xs.length with
      | false => rfl
      | true =>
        simp only [cond_true]
        cases xs[i]? with
        | none => rfl
        | some e => simp only [Option.bind_some]; cases ldData g n (e.cells.drop j) <;> rfl
    | _ => rfl
  | _ => rfl
theorem store_ev {t : TypeId} {x y : AVal} (hc : ∃ c, clStore x y = some c) : stStore P σ dst t x y = (storeV P σ.H σ.lev t x y).map (·.app σ dst) := by
  obtain ⟨c, hc⟩ := hc
  unfold stStore storeV
  cases x with
  | ptr l s off =>
    simp only
    cases σ.H l s with
    | box cs =>
      simp only [stBoxV]
      cases avCells y with
      | none => rfl
      | some ys =>
        simp only [Option.bind_some]
        cases ((szOf P t).any (Nat.beq ys.length) && Nat.ble l σ.lev && AVal.belL (l + 1) ys && Nat.ble (off + ys.length) cs.length) <;> rfl
    | _ => rfl
  | elt l s k i j =>
    simp only [clStore] at hc
    cases hd : isD y with
    | false => rw [hd] at hc; cases hc
    | true =>
      simp only [frzV_isD σ hd, Option.bind_some]
      cases σ.H l s with
      | arr sz xs =>
        simp only [stEltV]
        cases xs[i]? with
        | none => rfl
        | some e =>
          simp only [Option.bind_some]
          cases ((szOf P t).any (Nat.beq (datum y).cells.length) && Nat.beq k xs.length && Nat.ble l σ.lev && Nat.ble (j + (datum y).cells.length) sz) <;> rfl
      | _ => rfl
  | _ => rfl
theorem idx_ev {t : TypeId} {x y : AVal} : stIndexA P σ dst t x y = (idxV P σ.H t x y).map (·.app σ dst) := by
  unfold stIndexA idxV
  cases elemOf' P t with
  | none => rfl
  | some e =>
  simp only [Option.bind_some]
  cases szOf P e with
  | none => rfl
  | some n =>
  simp only [Option.bind_some]
  cases intOfA y with
  | none => rfl
  | some z =>
  simp only [Option.bind_some]
  cases decide (0 ≤ z) with
  | false => rfl
  | true =>
  simp only [cond_true]
  cases x with
  | d d =>
    cases d with
    | list xs =>
      simp only
      cases xs[z.toNat]? with
      | none => rfl
      | some y => simp only [Option.bind_some]; cases Nat.beq y.cells.length n <;> rfl
    | _ => rfl
  | ref l s k =>
    simp only
    cases σ.H l s with
    | arr sz xs => simp only [idxO]; cases (Nat.beq k xs.length && Nat.beq sz n && Nat.blt z.toNat k) <;> rfl
    | frz xs =>
      simp only [idxO]
      cases xs[z.toNat]? with
      | none => rfl
      | some y => simp only [Option.bind_some]; cases (Nat.beq k xs.length && Nat.beq y.cells.length n) <;> rfl
    | _ => rfl
  | _ => rfl
theorem bnds_eq (lo hi : Option Operand) : bnds lo hi ((lo.toArray ++ hi.toArray).toList.map (evO σ)) = (lo.map (evO σ), hi.map (evO σ)) := by cases lo <;> cases hi <;> rfl
theorem optI_ev (d : Int) (x : Option Operand) : optInt σ d x = optIV d (x.map (evO σ)) := by cases x <;> rfl
theorem optV_ev (x : Option Operand) : optV σ x = optVV (x.map (evO σ)) := by cases x <;> rfl
theorem ev1_ok {op : Op} {c : Cl} (hc : cls P σ op = some c) : stepD P σ dst ty op = (ev1 P σ.H σ.lev dst ty op (opVals σ op)).map (·.app σ dst) := by
  cases op with
  | move x => rfl
  | assign x =>
    show (bif isNilS x then _ else _) = Option.map _ (bif isNilS x then _ else _)
    cases isNilS x with
    | false => rfl
    | true =>
      cases dst with
      | none => rfl
      | some d =>
        simp only [cond_true, onDst, onDstE, stNilSlice]
        cases elemOf' P ty with
        | none => rfl
        | some e => simp only [Option.bind_some]; cases szOf P e <;> rfl
  | pick c x y => show (boolOf (evO σ c)).map _ = Option.map _ ((boolOf (evO σ c)).map _); cases boolOf (evO σ c) <;> rfl
  | nilCheck x => show stNil σ dst x = (nilV (evO σ x)).map _; unfold stNil nilV; cases evO σ x <;> rfl
  | binOp op t x y u => exact scal2_ev _ _ _
  | unOp op t x => exact scal1_ev _ _
  | index t x y => exact scal2_ev _ _ _
  | fieldAddr s x f =>
    show stFieldA P σ dst s f (evO σ x) = Option.map _ _
    simp only [stFieldA, ev1, f1, opVals, Op.operands, List.map_cons, List.map_nil]
    cases fldOf P s f with
    | none => rfl
    | some p =>
    simp only [Option.bind_some]
    cases szOf P p.2 with
    | none => rfl
    | some n =>
    simp only [Option.bind_some]
    cases Nat.beq n 0 with
    | true => rfl
    | false =>
      simp only [cond_false]
      cases evO σ x with
      | cptr cs => simp only [fieldAV]; cases Nat.ble p.1 cs.length <;> rfl
      | _ => rfl
  | field s x f =>
    show stField P σ dst s f (evO σ x) = Option.map _ _
    simp only [stField, ev1, f1, opVals, Op.operands, List.map_cons, List.map_nil]
    cases fldOf P s f with
    | none => rfl
    | some p =>
    simp only [Option.bind_some]
    cases szOf P p.2 with
    | none => rfl
    | some n =>
    simp only [Option.bind_some]
    cases aggOf P p.2 with
    | none => rfl
    | some g =>
      simp only [Option.bind_some]
      cases evO σ x with
      | d d =>
        cases d with
        | agg cs => simp only [fieldV]; cases ldData g n (cs.drop p.1) <;> rfl
        | _ => rfl
      | _ => rfl
  | extract x i =>
    show stExtract σ dst x i = (extV i (evO σ x)).map _
    unfold stExtract extV
    cases evO σ x with
    | tup xs => simp only; cases xs[i]? <;> rfl
    | _ => rfl
  | makeFunc fv first caps =>
    cases fv with
    | func f =>
      show (bif first.toList.isEmpty then _ else _) = Option.map _ (bif first.toList.isEmpty then _ else _)
      cases hf : first.toList.isEmpty with
      | false => rfl
      | true =>
        have : first = #[] := by apply Array.ext'; simpa using hf
        subst this
        simp [stFunc, opVals, Op.operands, pv, Eff.app]
    | _ => rfl
  | alloc t =>
    cases dst with
    | none => rfl
    | some d =>
      show stAlloc P σ d t = Option.map _ (Option.bind _ _)
      unfold stAlloc
      cases zeroC P t with
      | none => rfl
      | some vs => simp only [Option.bind_some]; cases vs.all (·.oneCell') <;> rfl
  | build t ps =>
    have hx : opVals σ (.build t ps) = ps.toList.map fun p => evO σ p.2 := by simp [opVals, Op.operands, Function.comp_def]
    simp only [cls, cls1] at hc
    cases ha : allD (opVals σ (.build t ps)) with
    | false => rw [ha] at hc; cases hc
    | true =>
      show stBuild P σ dst t ps = Option.map _ _
      simp only [stBuild, ev1]
      rw [hx] at ha ⊢
      cases zeroC P t with
      | none => rfl
      | some zs =>
      simp only [Option.bind_some]
      cases placesOf P t with
      | none => rfl
      | some places =>
      simp only [Option.bind_some, frzL_allD σ ha]
      cases zs.all (·.oneCell') with
      | false => rfl
      | true =>
        simp only [cond_true]
        cases fillD (places[·]?) (zs.map constD) (zipI ps.toList (List.map datum (ps.toList.map fun p => evO σ p.2))) <;> rfl
  | buildSlice t len ps =>
    have hx : opVals σ (.buildSlice t len ps) = ps.toList.map fun p => evO σ p.2 := by simp [opVals, Op.operands, Function.comp_def]
    simp only [cls, cls1] at hc
    cases ha : allD (opVals σ (.buildSlice t len ps)) with
    | false => rw [ha] at hc; cases hc
    | true =>
      cases dst with
      | none => rfl
      | some d =>
      show stBuildSlice P σ d t len ps = Option.map _ _
      simp only [stBuildSlice, ev1, onDstE]
      rw [hx] at ha ⊢
      cases elemOf' P t with
      | none => rfl
      | some e =>
      simp only [Option.bind_some]
      cases P.info? e with
      | none => rfl
      | some i =>
      simp only [Option.bind_some]
      cases i.zero with
      | none => rfl
      | some z =>
      simp only [Option.bind_some, frzL_allD σ ha]
      generalize (z.cells.toList.all (·.oneCell') && Nat.beq z.cells.size i.size && Nat.blt 0 i.size && Nat.ble (len * i.size) 16777216 && (zipI ps.toList (List.map datum (ps.toList.map fun p => evO σ p.2))).all (fun p => Nat.blt p.1 len && Nat.beq p.2.cells.length i.size)) = b
      cases b <;> rfl
  | load t x => exact load_ev ⟨c, hc⟩
  | store t x y => exact store_ev ⟨c, hc⟩
  | indexAddr t x y => exact idx_ev
  | slice t x lo hi mx =>
    cases mx with
    | some m => obtain ⟨_, _, _, h⟩ := fc_some hc; cases h
    | none =>
      have hx : opVals σ (.slice t x lo hi none) = evO σ x :: (lo.toArray ++ hi.toArray).toList.map (evO σ) := by simp [opVals, Op.operands]
      simp only [cls, hx, cls1, fc, clSlice] at hc
      simp only [hx, ev1, fc, bnds_eq]
      show (bif isStr P t then _ else _) = _
      cases hs : isStr P t with
      | true =>
        simp only [cond_true, stSliceS, slSV, optV_ev]
        cases toV (evO σ x) with
        | none => rfl
        | some u =>
        simp only [Option.bind_some]
        cases optVV (lo.map (evO σ)) with
        | none => rfl
        | some l =>
        simp only [Option.bind_some]
        cases optVV (hi.map (evO σ)) with
        | none => rfl
        | some h => simp only [Option.bind_some]; cases sliceV P t u l h <;> rfl
      | false =>
        simp only [hs, Bool.false_or] at hc
        cases hd : isD (evO σ x) with
        | false => rw [hd] at hc; cases hc
        | true =>
          simp only [cond_false, stSliceL, slLV, frzV_isD σ hd, optI_ev]
          cases elemOf' P t with
          | none => rfl
          | some e =>
          simp only [Option.bind_some]
          cases szOf P e with
          | none => rfl
          | some n =>
          simp only [Option.bind_some]
          cases datum (evO σ x) with
          | list xs =>
            simp only
            cases optIV 0 (lo.map (evO σ)) with
            | none => rfl
            | some l =>
            simp only [Option.bind_some]
            cases optIV xs.length (hi.map (evO σ)) with
            | none => rfl
            | some h =>
              simp only [Option.bind_some]
              cases (decide (0 ≤ l) && decide (l ≤ h) && decide (h ≤ xs.length) && allLen n xs) <;> rfl
          | _ => rfl
  | call c =>
    obtain ⟨cal, args, ats⟩ := c
    cases cal with
    | builtin b =>
      show stCallB P σ dst ty b args.toList ats.toList = Option.map _ _
      have hx : opVals σ (.call { callee := .builtin b, args := args, argTypes := ats }) = args.toList.map (evO σ) := by simp [opVals, Op.operands, Call.operands]
      simp only [hx, ev1]
      unfold stCallB callBV
      cases b with
      | len =>
        cases args.toList with
        | nil => rfl
        | cons a r =>
          cases r with
          | cons _ _ => rfl
          | nil =>
            cases ats.toList with
            | nil => rfl
            | cons t r =>
              cases r with
              | cons _ _ => rfl
              | nil =>
                simp only [List.map_cons, List.map_nil]
                cases isStr P t with
                | true => exact builtin_ev _ _ _
                | false =>
                  simp only [cond_false, stLen]
                  cases elemOf' P t with
                  | none => rfl
                  | some e => simp only [Option.bind_some]; cases lenA (evO σ a) <;> rfl
      | max => simp only; have := builtin_ev (P := P) (σ := σ) (dst := dst) (ty := ty) .max ats args; simpa using this
      | min => simp only; have := builtin_ev (P := P) (σ := σ) (dst := dst) (ty := ty) .min ats args; simpa using this
      | _ => simp [cls, cls1, clCall] at hc
    | _ => simp [cls, cls1, clCall] at hc
  | _ => simp [cls, cls1, clCall] at hc
end
end Go.Fw
/- Effects depend on what is looked at, and name no slot that is not named. -/
set_option autoImplicit false
namespace Go.Fw
def Eff.fits (e : Eff) (c : Cl) (lev : Nat) (dst : Option Tmp) : Prop :=
  match c with
  | .pure => e.up = none
  | .mem _ _ false => e.up = none
  | .mem l t true => e.nw = false ∧ ∃ ob, e.up = some (l, t, ob)
  | .new => e.nw = true ∧ ∃ d ob, dst = some d ∧ e.up = some (lev, d, ob)
def Eff.free (e : Eff) (l t : Nat) : Prop := e.r.purge l t = e.r ∧ ∀ u, e.up = some u → u.2.2.purge l t = u.2.2
def AVal.fr (l t : Nat) (x : AVal) : Prop := x.purge l t = x
theorem clLoad_ptr {P : Program} {H : Hp} {ty : TypeId} {l t off : Nat} {c : Cl} (h : clLoad P H ty (.ptr l t off) = some c) : c = .mem l t false := by
  simp only [clLoad] at h
  cases hO : H l t with
  | box cs =>
    rw [hO] at h
    simp only at h
    cases hb : ((aggOf P ty).any (fun g => !g) || allD cs) with
    | false => rw [hb] at h; cases h
    | true => rw [hb] at h; simp only [cond_true, Option.some.injEq] at h; exact h.symm
  | _ => rw [hO] at h; cases h
theorem cls1_congr {P : Program} {H H' : Hp} {op : Op} {xs : List AVal} {c : Cl} (h : cls1 P H op xs = some c) (hH : ∀ l t w, c = .mem l t w → H' l t = H l t) : cls1 P H' op xs = some c := by
  cases op with
  | load ty x =>
    replace h := f1_some h; obtain ⟨x, rfl, h⟩ := h
    show clLoad P H' ty x = some c
    cases x with
    | ptr l t off =>
      have e := clLoad_ptr h
      simp only [clLoad] at h ⊢
      rw [hH l t false e]
      exact h
    | _ => exact h
  | _ => exact h
theorem ev1_congr {P : Program} {H H' : Hp} {lev : Nat} {dst : Option Tmp} {ty : TypeId} {op : Op} {xs : List AVal} {c : Cl} (h : cls1 P H op xs = some c) (hH : ∀ l t w, c = .mem l t w → H' l t = H l t) : ev1 P H' lev dst ty op xs = ev1 P H lev dst ty op xs := by
  cases op with
  | load ty x =>
    replace h := f1_some h; obtain ⟨x, rfl, h⟩ := h
    show loadV P H' ty x = loadV P H ty x
    cases x with
    | ptr l t off => simp only [loadV, hH l t false (clLoad_ptr h)]
    | elt l t k i j => cases h; simp only [loadV, hH l t false rfl]
    | _ => rfl
  | store ty x y =>
    replace h := f2_some h; obtain ⟨x, y, rfl, h⟩ := h
    show storeV P H' lev ty x y = storeV P H lev ty x y
    cases x with
    | ptr l t off => cases h; simp only [storeV, hH l t true rfl]
    | elt l t k i j =>
      simp only [clStore] at h
      cases hd : isD y with
      | false => rw [hd] at h; cases h
      | true => rw [hd] at h; cases h; simp only [storeV, hH l t true rfl]
    | _ => rfl
  | indexAddr ty x y =>
    replace h := f2_some h; obtain ⟨x, y, rfl, h⟩ := h
    show idxV P H' ty x y = idxV P H ty x y
    cases x with
    | ref l t k => cases h; simp only [idxV, hH l t false rfl]
    | d d => cases d <;> rfl
    | _ => cases h
  | makeFunc fv first caps => cases fv <;> rfl
  | call c => obtain ⟨cal, a, b⟩ := c; cases cal <;> rfl
  | _ => rfl
/-- The kinds of operations that make objects. -/
def newK : Op → Bool
  | .assign x => isNilS x
  | .alloc _ => true
  | .buildSlice _ _ _ => true
  | _ => false
theorem pv_fits {e : Eff} {r : AVal} {dst : Option Tmp} {lev : Nat} (h : pv r = e) : e.fits .pure lev dst := by subst h; rfl
theorem pv_fits2 {e : Eff} {r : AVal} {dst : Option Tmp} {lev l t : Nat} (h : pv r = e) : e.fits (.mem l t false) lev dst := by subst h; rfl
theorem load_up {P : Program} {H : Hp} {ty : TypeId} {x : AVal} {e : Eff} (h : loadV P H ty x = some e) : e.up = none := by
  unfold loadV at h
  obtain ⟨n, _, h⟩ := Option.bind_eq_some_iff.1 h
  obtain ⟨g, _, h⟩ := Option.bind_eq_some_iff.1 h
  have ld : ∀ {cs : List DVal}, ((ldData g n cs).map fun y => pv (.d y)) = some e → e.up = none := fun h => by obtain ⟨y, _, rfl⟩ := Option.map_eq_some_iff.1 h; rfl
  cases x with
  | ptr l t off =>
    simp only at h
    cases hO : H l t with
    | box cs =>
      rw [hO] at h
      simp only [boxV] at h
      cases g with
      | false => simp only [cond_false] at h; obtain ⟨y, _, rfl⟩ := Option.map_eq_some_iff.1 h; rfl
      | true =>
        simp only [cond_true] at h
        cases hb : Nat.ble n (cs.drop off).length with
        | false => rw [hb] at h; cases h
        | true => rw [hb] at h; cases h; rfl
    | _ => rw [hO] at h; cases h
  | cptr cs => exact ld h
  | elt l t k i j =>
    simp only at h
    have key : ∀ xs : List DVal, (bif Nat.beq k xs.length then (xs[i]?).bind fun e => (ldData g n (e.cells.drop j)).map fun y => pv (.d y) else none) = some e → e.up = none := fun xs h => by
      cases hb : Nat.beq k xs.length with
      | false => rw [hb] at h; cases h
      | true => rw [hb] at h; obtain ⟨y, _, h⟩ := Option.bind_eq_some_iff.1 h; exact ld h
    cases hO : H l t with
    | arr sz xs => rw [hO] at h; exact key xs h
    | frz xs => rw [hO] at h; exact key xs h
    | _ => rw [hO] at h; cases h
  | _ => cases h
theorem idx_up {P : Program} {H : Hp} {t : TypeId} {x y : AVal} {e : Eff} (h : idxV P H t x y = some e) : e.up = none := by
  unfold idxV at h
  obtain ⟨el, _, h⟩ := Option.bind_eq_some_iff.1 h
  obtain ⟨n, _, h⟩ := Option.bind_eq_some_iff.1 h
  obtain ⟨z, _, h⟩ := Option.bind_eq_some_iff.1 h
  cases hb : decide (0 ≤ z) with
  | false => rw [hb] at h; cases h
  | true =>
    rw [hb] at h
    simp only [cond_true] at h
    have key : ∀ (b : Bool) (r : AVal), (bif b then some (pv r) else none) = some e → e.up = none := fun b r h => by cases b <;> cases h; rfl
    cases x with
    | d d =>
      cases d with
      | list xs => simp only at h; obtain ⟨y, _, h⟩ := Option.bind_eq_some_iff.1 h; exact key _ _ h
      | _ => cases h
    | ref l s k =>
      simp only at h
      cases hO : H l s with
      | arr sz xs => rw [hO] at h; exact key _ _ h
      | frz xs => rw [hO] at h; simp only [idxO] at h; obtain ⟨y, _, h⟩ := Option.bind_eq_some_iff.1 h; exact key _ _ h
      | _ => rw [hO] at h; cases h
    | _ => cases h
theorem map_pv {α : Type} {o : Option α} {f : α → AVal} {e : Eff} (h : (o.map fun r => pv (f r)) = some e) : ∃ r, e = pv (f r) ∧ o = some r := by
  obtain ⟨r, h1, h2⟩ := Option.map_eq_some_iff.1 h
  exact ⟨r, h2.symm, h1⟩
theorem biV_pv {P : Program} {b : Builtin} {ts : Array TypeId} {ty : TypeId} {cs : Array Bool} {xs : List AVal} {e : Eff} (h : biV P b ts ty cs xs = some e) : ∃ r, e = pv (ofConst r) := by
  unfold biV at h
  obtain ⟨us, _, h⟩ := Option.bind_eq_some_iff.1 h
  obtain ⟨r, h, _⟩ := map_pv h
  exact ⟨r, h⟩
theorem callBV_pv {P : Program} {ty : TypeId} {b : Builtin} {os : List Operand} {xs : List AVal} {ts : List TypeId} {e : Eff} (h : callBV P ty b os xs ts = some e) : ∃ r, e = pv r ∧ ∀ l t, r.purge l t = r := by
  have cst : ∀ (r : Value) (l t : Nat), (ofConst r).purge l t = ofConst r := fun r l t => by
    unfold ofConst
    split
    · rfl
    · rename_i cs; cases cs.all (·.oneCell') <;> rfl
    · rfl
    · rfl
  unfold callBV at h
  split at h
  · rename_i o x t
    cases hs : isStr P t with
    | true => rw [hs] at h; obtain ⟨r, rfl⟩ := biV_pv h; exact ⟨_, rfl, cst r⟩
    | false =>
      rw [hs] at h
      obtain ⟨el, _, h⟩ := Option.bind_eq_some_iff.1 h
      obtain ⟨n, rfl, _⟩ := map_pv h
      exact ⟨_, rfl, fun _ _ => rfl⟩
  · obtain ⟨r, rfl⟩ := biV_pv h; exact ⟨_, rfl, cst r⟩
  · obtain ⟨r, rfl⟩ := biV_pv h; exact ⟨_, rfl, cst r⟩
  · cases h
theorem fr_const (r : Value) (l t : Nat) : (ofConst r).purge l t = ofConst r := by
  unfold ofConst
  split
  · rfl
  · rename_i cs; cases cs.all (·.oneCell') <;> rfl
  · rfl
  · rfl
theorem fr_slot {x : AVal} {l t l' t' : Nat} (h : (bif l' == l && t' == t then AVal.any else x) = x) (hx : x ≠ .any) : ¬ (l' = l ∧ t' = t) := by
  rintro ⟨rfl, rfl⟩
  simp at h
  exact hx h.symm
theorem ne_slot {x : AVal} {l t l' t' : Nat} (h : ¬ (l' = l ∧ t' = t)) : (bif l' == l && t' == t then AVal.any else x) = x := by
  have e2 : (l' == l && t' == t) = false := by simpa using h
  rw [e2]; rfl
theorem load_free {P : Program} {H : Hp} {ty : TypeId} {x : AVal} {e : Eff} {l t : Nat} (he : loadV P H ty x = some e) (hH : ∀ l' t' off, x = .ptr l' t' off → (H l' t').purge l t = H l' t') : e.r.purge l t = e.r := by
  unfold loadV at he
  obtain ⟨n, _, he⟩ := Option.bind_eq_some_iff.1 he
  obtain ⟨g, _, he⟩ := Option.bind_eq_some_iff.1 he
  have ld : ∀ {cs : List DVal}, ((ldData g n cs).map fun y => pv (.d y)) = some e → e.r.purge l t = e.r := fun h => by obtain ⟨y, _, rfl⟩ := Option.map_eq_some_iff.1 h; rfl
  have key : ∀ (xs : List DVal) (k i j : Nat), (bif Nat.beq k xs.length then (xs[i]?).bind fun e => (ldData g n (e.cells.drop j)).map fun y => pv (.d y) else none) = some e → e.r.purge l t = e.r := fun xs k i j h => by
    cases hb : Nat.beq k xs.length with
    | false => rw [hb] at h; cases h
    | true => rw [hb] at h; obtain ⟨y, _, h⟩ := Option.bind_eq_some_iff.1 h; exact ld h
  cases x with
  | ptr l2 t2 off =>
    simp only at he
    cases hO : H l2 t2 with
    | box cs =>
      have hp := hH l2 t2 off rfl
      rw [hO] at he hp
      simp only [boxV] at he
      simp only [AObj.purge, AObj.box.injEq, AVal.purgeL_eq] at hp
      cases g with
      | false =>
        simp only [cond_false] at he
        obtain ⟨y, hy, rfl⟩ := Option.map_eq_some_iff.1 he
        rw [List.head?_drop] at hy
        have := congrArg (fun q => q[off]?) hp
        simp only [List.getElem?_map, hy, Option.map_some, Option.some.injEq] at this
        exact this
      | true =>
        simp only [cond_true] at he
        cases hb : Nat.ble n (cs.drop off).length with
        | false => rw [hb] at he; cases he
        | true => rw [hb] at he; cases he; rfl
    | _ => rw [hO] at he; cases he
  | cptr cs => exact ld he
  | elt l2 t2 k i j =>
    simp only at he
    cases hO : H l2 t2 with
    | arr sz xs => rw [hO] at he; exact key xs k i j he
    | frz xs => rw [hO] at he; exact key xs k i j he
    | _ => rw [hO] at he; cases he
  | _ => cases he
theorem idx_free {P : Program} {H : Hp} {ty : TypeId} {x y : AVal} {e : Eff} {l t : Nat} (h : idxV P H ty x y = some e) (hx : x.purge l t = x) : e.r.purge l t = e.r := by
  unfold idxV at h
  obtain ⟨el, _, h⟩ := Option.bind_eq_some_iff.1 h
  obtain ⟨n, _, h⟩ := Option.bind_eq_some_iff.1 h
  obtain ⟨z, _, h⟩ := Option.bind_eq_some_iff.1 h
  cases hb : decide (0 ≤ z) with
  | false => rw [hb] at h; cases h
  | true =>
    rw [hb] at h
    simp only [cond_true] at h
    cases x with
    | d d =>
      cases d with
      | list xs => simp only at h; obtain ⟨y, _, h⟩ := Option.bind_eq_some_iff.1 h; cases hb2 : Nat.beq y.cells.length n <;> rw [hb2] at h <;> cases h; rfl
      | _ => cases h
    | ref l2 t2 k =>
      have hs := fr_slot (x := .ref l2 t2 k) (by simpa [AVal.purge] using hx) (by simp)
      simp only at h
      cases hO : H l2 t2 with
      | arr sz xs =>
        rw [hO] at h
        simp only [idxO] at h
        generalize (Nat.beq k xs.length && Nat.beq sz n && Nat.blt z.toNat k) = b at h
        cases b <;> cases h
        exact ne_slot hs
      | frz xs =>
        rw [hO] at h; simp only [idxO] at h
        obtain ⟨y, _, h⟩ := Option.bind_eq_some_iff.1 h
        generalize (Nat.beq k xs.length && Nat.beq y.cells.length n) = b at h
        cases b <;> cases h; rfl
      | _ => rw [hO] at h; cases h
    | _ => cases h
/-- What is to be known of an operation's effect. -/
structure EffOk (H : Hp) (lev : Nat) (dst : Option Tmp) (xs : List AVal) (c : Cl) (e : Eff) : Prop where
  fits : e.fits c lev dst
  slot : ∀ l t, (∀ x ∈ xs, x.purge l t = x) → ∀ l' t' w, c = .mem l' t' w → ¬ (l' = l ∧ t' = t)
  free : ∀ l t, (∀ x ∈ xs, x.purge l t = x) → (∀ l' t' w, c = .mem l' t' w → (H l' t').purge l t = H l' t') → (c = .new → ¬ (l = lev ∧ dst = some t)) → e.free l t
theorem EffOk.pure {H : Hp} {lev : Nat} {dst : Option Tmp} {xs : List AVal} {r : AVal} (hr : ∀ l t, (∀ x ∈ xs, x.purge l t = x) → r.purge l t = r) : EffOk H lev dst xs .pure (pv r) :=
  ⟨rfl, fun _ _ _ _ _ _ h => (by cases h), fun l t hx _ _ => ⟨hr l t hx, fun u hu => (by cases hu)⟩⟩
theorem EffOk.read {H : Hp} {lev : Nat} {dst : Option Tmp} {xs : List AVal} {e : Eff} {l t : Nat} (hu : e.up = none) (hs : ∀ l' t', (∀ x ∈ xs, x.purge l' t' = x) → ¬ (l = l' ∧ t = t'))
    (hr : ∀ l' t', (∀ x ∈ xs, x.purge l' t' = x) → (H l t).purge l' t' = H l t → e.r.purge l' t' = e.r) : EffOk H lev dst xs (.mem l t false) e :=
  ⟨hu, fun l' t' hx _ _ _ h => (by cases h; exact hs l' t' hx), fun l' t' hx hH _ => ⟨hr l' t' hx (hH l t false rfl), fun u hu' => (by rw [hu] at hu'; cases hu')⟩⟩
theorem EffOk.new {H : Hp} {lev d : Nat} {xs : List AVal} {r : AVal} {ob : AObj} (hr : ∀ l t, ¬ (lev = l ∧ d = t) → r.purge l t = r) (ho : ∀ l t, ob.purge l t = ob) : EffOk H lev (some d) xs .new ⟨r, some (lev, d, ob), true⟩ :=
  ⟨⟨rfl, d, ob, rfl, rfl⟩, fun _ _ _ _ _ _ h => (by cases h), fun l t _ _ hne => ⟨hr l t fun ⟨a, b⟩ => hne rfl ⟨a.symm, by rw [b]⟩, fun u hu => (by cases hu; exact ho l t)⟩⟩
theorem ev1_eff {P : Program} {H : Hp} {lev : Nat} {dst : Option Tmp} {ty : TypeId} {op : Op} {xs : List AVal} {c : Cl} {e : Eff} (h : cls1 P H op xs = some c) (he : ev1 P H lev dst ty op xs = some e) : EffOk H lev dst xs c e := by
  cases op with
  | move x => cases h; replace he := f1_some he; obtain ⟨x, rfl, he⟩ := he; cases he; exact .pure fun l t hx => hx x (by simp)
  | assign o =>
    replace he := f1_some he; obtain ⟨x, rfl, he⟩ := he
    simp only [cls1, Option.some.injEq] at h
    cases hn : isNilS o with
    | false => rw [hn] at he h; cases he; cases h; exact .pure fun l t hx => hx x (by simp)
    | true =>
      rw [hn] at he h
      cases h
      cases dst with
      | none => cases he
      | some d =>
        simp only [onDstE, cond_true] at he
        obtain ⟨el, _, he⟩ := Option.bind_eq_some_iff.1 he
        obtain ⟨n, _, rfl⟩ := Option.map_eq_some_iff.1 he
        exact .new (fun l t hne => ne_slot hne) (fun _ _ => rfl)
  | pick a b d =>
    cases h
    replace he := f3_some he; obtain ⟨x, y, z, rfl, he⟩ := he
    obtain ⟨b, _, rfl⟩ := Option.map_eq_some_iff.1 he
    refine .pure fun l t hx => ?_
    cases b
    · exact hx z (by simp)
    · exact hx y (by simp)
  | nilCheck x =>
    cases h
    replace he := f1_some he; obtain ⟨x, rfl, he⟩ := he
    have hr : e = pv x := by cases x <;> cases he <;> rfl
    subst hr
    exact .pure fun l t hx => hx x (by simp)
  | binOp op t a b u =>
    cases h
    replace he := f2_some he; obtain ⟨x, y, rfl, he⟩ := he
    obtain ⟨u, _, he⟩ := Option.bind_eq_some_iff.1 he
    obtain ⟨v, _, he⟩ := Option.bind_eq_some_iff.1 he
    obtain ⟨r, rfl, _⟩ := map_pv he
    exact .pure fun l t _ => fr_const r l t
  | unOp op t a =>
    cases h
    replace he := f1_some he; obtain ⟨x, rfl, he⟩ := he
    obtain ⟨u, _, he⟩ := Option.bind_eq_some_iff.1 he
    obtain ⟨r, rfl, _⟩ := map_pv he
    exact .pure fun l t _ => fr_const r l t
  | index t a b =>
    cases h
    replace he := f2_some he; obtain ⟨x, y, rfl, he⟩ := he
    obtain ⟨u, _, he⟩ := Option.bind_eq_some_iff.1 he
    obtain ⟨v, _, he⟩ := Option.bind_eq_some_iff.1 he
    obtain ⟨r, rfl, _⟩ := map_pv he
    exact .pure fun l t _ => fr_const r l t
  | fieldAddr s a f =>
    cases h
    replace he := f1_some he; obtain ⟨x, rfl, he⟩ := he
    obtain ⟨p, _, he⟩ := Option.bind_eq_some_iff.1 he
    obtain ⟨n, _, he⟩ := Option.bind_eq_some_iff.1 he
    cases hb : Nat.beq n 0 with
    | true => rw [hb] at he; cases he
    | false =>
      rw [hb] at he
      simp only [cond_false] at he
      cases x with
      | ptr l' t' off =>
        cases he
        exact .pure fun l t hx => ne_slot (fr_slot (x := .ptr l' t' off) (by simpa [AVal.purge] using hx _ (List.mem_singleton.2 rfl)) (by simp))
      | elt l' t' k i j =>
        cases he
        exact .pure fun l t hx => ne_slot (fr_slot (x := .elt l' t' k i j) (by simpa [AVal.purge] using hx _ (List.mem_singleton.2 rfl)) (by simp))
      | cptr cs =>
        simp only [fieldAV] at he
        cases hb2 : Nat.ble p.1 cs.length with
        | false => rw [hb2] at he; cases he
        | true => rw [hb2] at he; cases he; exact .pure fun l t _ => rfl
      | _ => cases he
  | field s a f =>
    cases h
    replace he := f1_some he; obtain ⟨x, rfl, he⟩ := he
    obtain ⟨p, _, he⟩ := Option.bind_eq_some_iff.1 he
    obtain ⟨n, _, he⟩ := Option.bind_eq_some_iff.1 he
    obtain ⟨g, _, he⟩ := Option.bind_eq_some_iff.1 he
    unfold fieldV at he
    split at he
    · obtain ⟨y, _, rfl⟩ := Option.map_eq_some_iff.1 he
      exact .pure fun l t _ => rfl
    · cases he
  | extract a i =>
    cases h
    replace he := f1_some he; obtain ⟨x, rfl, he⟩ := he
    unfold extV at he
    split at he
    · rename_i ys
      obtain ⟨y, hy, rfl⟩ := Option.map_eq_some_iff.1 he
      refine .pure fun l t hx => ?_
      have hz := hx _ (List.mem_singleton.2 rfl)
      simp only [AVal.purge, AVal.tup.injEq, AVal.purgeL_eq] at hz
      have := congrArg (fun q => q[i]?) hz
      simp only [List.getElem?_map, hy, Option.map_some, Option.some.injEq] at this
      exact this
    · cases he
  | makeFunc fv first caps =>
    cases h
    cases fv with
    | func f =>
      simp only [ev1] at he
      cases hb : first.toList.isEmpty with
      | false => rw [hb] at he; cases he
      | true =>
        rw [hb] at he
        cases he
        refine .pure fun l t hx => ?_
        simp only [AVal.purge, AVal.purgeL_eq, AVal.clo.injEq, true_and]
        exact (List.map_congr_left hx).trans (List.map_id' xs)
    | _ => cases he
  | alloc t =>
    cases h
    cases dst with
    | none => cases he
    | some d =>
      simp only [ev1, onDstE] at he
      obtain ⟨vs, _, he⟩ := Option.bind_eq_some_iff.1 he
      cases hb : vs.all (·.oneCell') with
      | false => rw [hb] at he; cases he
      | true =>
        rw [hb] at he
        cases he
        refine .new (fun l t hne => ne_slot hne) (fun l t => ?_)
        simp only [AObj.purge, AObj.box.injEq, AVal.purgeL_eq, List.map_map]
        apply List.map_congr_left
        intro v _
        have hcc : ∀ l t, (cellC v).purge l t = cellC v := fun l t => by unfold cellC; split <;> rfl
        simp [Function.comp, hcc]
  | build t ps =>
    simp only [cls1] at h
    cases ha : allD xs with
    | false => rw [ha] at h; cases h
    | true =>
      rw [ha] at h
      cases h
      simp only [ev1] at he
      obtain ⟨zs, _, he⟩ := Option.bind_eq_some_iff.1 he
      obtain ⟨pl, _, he⟩ := Option.bind_eq_some_iff.1 he
      cases hb : zs.all (·.oneCell') with
      | false => rw [hb] at he; cases he
      | true =>
        rw [hb] at he
        obtain ⟨cs, _, rfl⟩ := Option.map_eq_some_iff.1 he
        exact .pure fun l t _ => rfl
  | buildSlice t len ps =>
    simp only [cls1] at h
    cases ha : allD xs with
    | false => rw [ha] at h; cases h
    | true =>
      rw [ha] at h
      cases h
      cases dst with
      | none => cases he
      | some d =>
        simp only [ev1, onDstE] at he
        obtain ⟨el, _, he⟩ := Option.bind_eq_some_iff.1 he
        obtain ⟨i, _, he⟩ := Option.bind_eq_some_iff.1 he
        obtain ⟨z, _, he⟩ := Option.bind_eq_some_iff.1 he
        generalize (z.cells.toList.all (·.oneCell') && Nat.beq z.cells.size i.size && Nat.blt 0 i.size && Nat.ble (len * i.size) 16777216 && (zipI ps.toList (xs.map datum)).all (fun p => Nat.blt p.1 len && Nat.beq p.2.cells.length i.size)) = b at he
        cases b with
        | false => cases he
        | true =>
          cases he
          exact .new (fun l t hne => ne_slot hne) (fun _ _ => rfl)
  | load ty a =>
    replace h := f1_some h; obtain ⟨x, rfl, h⟩ := h
    have he : loadV P H ty x = some e := he
    have hup := load_up he
    cases x with
    | ptr l2 t2 off =>
      have hc := clLoad_ptr h
      subst hc
      exact .read hup (fun l' t' hx => fr_slot (x := .ptr l2 t2 off) (by simpa [AVal.purge] using hx _ (List.mem_singleton.2 rfl)) (by simp)) fun l t _ hH => load_free he fun _ _ _ h => (by cases h; exact hH)
    | elt l2 t2 k i j =>
      cases h
      exact .read hup (fun l' t' hx => fr_slot (x := .elt l2 t2 k i j) (by simpa [AVal.purge] using hx _ (List.mem_singleton.2 rfl)) (by simp)) fun l t _ hH => load_free he fun _ _ _ h => (by cases h)
    | cptr cs =>
      cases h
      exact ⟨hup, fun _ _ _ _ _ _ h => (by cases h), fun l t _ hH _ => ⟨load_free he fun _ _ _ h => (by cases h), fun u hu => (by rw [hup] at hu; cases hu)⟩⟩
    | _ => cases h
  | store ty a b =>
    replace h := f2_some h; obtain ⟨x, y, rfl, h⟩ := h
    have he : storeV P H lev ty x y = some e := he
    cases x with
    | ptr l2 t2 off =>
      cases h
      simp only [storeV] at he
      cases hO : H l2 t2 with
      | box cs =>
        rw [hO] at he
        simp only [stBoxV] at he
        obtain ⟨ys, hys, he⟩ := Option.bind_eq_some_iff.1 he
        generalize ((szOf P ty).any (Nat.beq ys.length) && Nat.ble l2 lev && AVal.belL (l2 + 1) ys && Nat.ble (off + ys.length) cs.length) = bb at he
        cases bb with
        | false => cases he
        | true =>
          cases he
          refine ⟨⟨rfl, _, rfl⟩, fun l t hx l' t' w hc => ?_, fun l t hx hH _ => ⟨rfl, fun u hu => ?_⟩⟩
          · cases hc
            exact fr_slot (x := .ptr l2 t2 off) (by simpa [AVal.purge] using hx _ (List.mem_cons_self)) (by simp)
          · cases hu
            have hp := hH l2 t2 true rfl
            rw [hO] at hp
            simp only [AObj.purge, AObj.box.injEq, AVal.purgeL_eq] at hp ⊢
            have h1 : (cs.take off).map (AVal.purge l t) = cs.take off := by rw [List.map_take, hp]
            have h2 : (cs.drop (off + ys.length)).map (AVal.purge l t) = cs.drop (off + ys.length) := by rw [List.map_drop, hp]
            have hy := hx y (by simp)
            have h3 : ys.map (AVal.purge l t) = ys := by
              cases y with
              | d d =>
                cases d with
                | agg ds => simp only [avCells, Option.some.injEq] at hys; subst hys; simp [AVal.purge]
                | _ => simp only [avCells, Option.some.injEq] at hys; subst hys; simp [AVal.purge]
              | any => cases hys
              | tup _ => cases hys
              | _ => simp only [avCells, Option.some.injEq] at hys; subst hys; simp only [List.map_cons, List.map_nil, hy]
            simp only [List.map_append, h1, h2, h3]
      | _ => rw [hO] at he; cases he
    | elt l2 t2 k i j =>
      simp only [clStore] at h
      cases hd : isD y with
      | false => rw [hd] at h; cases h
      | true =>
        rw [hd] at h
        cases h
        simp only [storeV] at he
        cases hO : H l2 t2 with
        | arr sz zs =>
          rw [hO] at he
          simp only [stEltV] at he
          obtain ⟨el, hel, he⟩ := Option.bind_eq_some_iff.1 he
          generalize ((szOf P ty).any (Nat.beq (datum y).cells.length) && Nat.beq k zs.length && Nat.ble l2 lev && Nat.ble (j + (datum y).cells.length) sz) = bb at he
          cases bb with
          | false => cases he
          | true =>
            cases he
            refine ⟨⟨rfl, _, rfl⟩, fun l t hx l' t' w hc => ?_, fun l t hx hH _ => ⟨rfl, fun u hu => ?_⟩⟩
            · cases hc
              exact fr_slot (x := .elt l2 t2 k i j) (by simpa [AVal.purge] using hx _ (List.mem_cons_self)) (by simp)
            · cases hu; rfl
        | _ => rw [hO] at he; cases he
    | _ => cases h
  | indexAddr ty a b =>
    replace h := f2_some h; obtain ⟨x, y, rfl, h⟩ := h
    have he : idxV P H ty x y = some e := he
    have hup := idx_up he
    cases x with
    | d d =>
      cases h
      exact ⟨hup, fun _ _ _ _ _ _ h => (by cases h), fun l t hx _ _ => ⟨idx_free he (hx _ (List.mem_cons_self)), fun u hu => (by rw [hup] at hu; cases hu)⟩⟩
    | ref l2 t2 k =>
      cases h
      exact .read hup (fun l' t' hx => fr_slot (x := .ref l2 t2 k) (by simpa [AVal.purge] using hx _ (List.mem_cons_self)) (by simp)) fun l t hx _ => idx_free he (hx _ (List.mem_cons_self))
    | _ => cases h
  | slice t a lo hi mx =>
    replace h := fc_some h; obtain ⟨x, r, rfl, h⟩ := h
    have hc : c = .pure := by
      unfold clSlice at h
      split at h
      · cases hb : (isStr P t || isD x) <;> rw [hb] at h <;> cases h; rfl
      · cases h
    subst hc
    simp only [ev1, fc] at he
    cases hs : isStr P t with
    | true =>
      rw [hs] at he
      simp only [cond_true, slSV] at he
      obtain ⟨u, _, he⟩ := Option.bind_eq_some_iff.1 he
      obtain ⟨u1, _, he⟩ := Option.bind_eq_some_iff.1 he
      obtain ⟨u2, _, he⟩ := Option.bind_eq_some_iff.1 he
      obtain ⟨r, rfl, _⟩ := map_pv he
      exact .pure fun l t _ => fr_const r l t
    | false =>
      rw [hs] at he
      simp only [cond_false, slLV] at he
      obtain ⟨u, _, he⟩ := Option.bind_eq_some_iff.1 he
      obtain ⟨n, _, he⟩ := Option.bind_eq_some_iff.1 he
      cases hx : datum x with
      | list xs =>
        rw [hx] at he
        simp only at he
        obtain ⟨u1, _, he⟩ := Option.bind_eq_some_iff.1 he
        obtain ⟨u2, _, he⟩ := Option.bind_eq_some_iff.1 he
        generalize (decide (0 ≤ u1) && decide (u1 ≤ u2) && decide (u2 ≤ xs.length) && allLen n xs) = b at he
        cases b <;> cases he
        exact .pure fun l t _ => rfl
      | _ => rw [hx] at he; cases he
  | call cl =>
    have hc : c = .pure := by
      obtain ⟨cal, args, ats⟩ := cl
      simp only [cls1] at h
      unfold clCall at h
      split at h <;> cases h <;> rfl
    subst hc
    obtain ⟨cal, args, ats⟩ := cl
    cases cal with
    | builtin b =>
      obtain ⟨r, rfl, hr⟩ := callBV_pv he
      exact .pure fun l t _ => hr l t
    | _ => cases he
  | _ => cases h
theorem cls1_newK {P : Program} {H : Hp} {op : Op} {xs : List AVal} (h : cls1 P H op xs = some .new) : newK op = true := by
  cases op with
  | assign o => simp only [cls1, Option.some.injEq] at h; cases hn : isNilS o with
    | false => rw [hn] at h; cases h
    | true => exact hn
  | alloc t => rfl
  | buildSlice t n ps => rfl
  | load ty a =>
    replace h := f1_some h; obtain ⟨x, rfl, h⟩ := h
    cases x with
    | ptr l t off => cases clLoad_ptr h
    | _ => cases h
  | store ty a b =>
    replace h := f2_some h; obtain ⟨x, y, rfl, h⟩ := h
    cases x with
    | elt l t k i j => simp only [clStore] at h; cases hd : isD y <;> rw [hd] at h <;> cases h
    | _ => cases h
  | indexAddr t a b =>
    replace h := f2_some h; obtain ⟨x, y, rfl, h⟩ := h
    cases x <;> cases h
  | slice t a lo hi mx =>
    replace h := fc_some h; obtain ⟨x, r, rfl, h⟩ := h
    unfold clSlice at h
    split at h
    · cases hb : (isStr P t || isD x) <;> rw [hb] at h <;> cases h
    · cases h
  | build t ps => simp only [cls1] at h; cases ha : allD xs <;> rw [ha] at h <;> cases h
  | call c => simp only [cls1] at h; unfold clCall at h; split at h <;> cases h
  | _ => cases h
end Go.Fw
/- Regions whose order is drawn: one order stands for all. -/
set_option autoImplicit false
namespace Go.Fw
structure Eqv (σ τ : St) : Prop where
  n : τ.n = σ.n
  lev : τ.lev = σ.lev
  H : τ.H = σ.H
  T : ∀ t, lk τ.T t = lk σ.T t
theorem Eqv.refl (σ : St) : Eqv σ σ := ⟨rfl, rfl, rfl, fun _ => rfl⟩
theorem Eqv.symm {σ τ : St} (h : Eqv σ τ) : Eqv τ σ := ⟨h.n.symm, h.lev.symm, h.H.symm, fun t => (h.T t).symm⟩
theorem Eqv.trans {σ τ ρ : St} (h : Eqv σ τ) (k : Eqv τ ρ) : Eqv σ ρ := ⟨k.n.trans h.n, k.lev.trans h.lev, k.H.trans h.H, fun t => (k.T t).trans (h.T t)⟩
theorem Rel.eqv {E : Env} {σ τ : St} {a : Act} {w : World} {K : Kt} (h : Rel E σ a w K) (e : Eqv σ τ) : Rel E τ a w K := by
  refine ⟨by rw [e.n]; exact h.size, h.defs, fun t => ?_, fun t => ?_, ?_⟩
  · rw [e.T, e.H]; exact h.tm t
  · rw [e.T, e.lev]; exact h.tb t
  · rw [e.lev, e.H]; exact h.hr
def Fre (l t : Nat) (σ : St) : Prop := (∀ j, (lk σ.T j).purge l t = lk σ.T j) ∧ ∀ l' t', (σ.H l' t').purge l t = σ.H l' t'
def Fr0 (σ : St) (c : Cl) (dst : Option Tmp) : Prop := c = .new → ∀ d, dst = some d → Fre σ.lev d σ
section
variable {e : Eff} {c : Cl} {σ : St} {dst : Option Tmp}
theorem app_n : (e.app σ dst).n = σ.n := by
  unfold Eff.app
  split
  · cases dst <;> rfl
  · cases e.nw
    · cases dst <;> rfl
    · rfl
theorem app_lev : (e.app σ dst).lev = σ.lev := by
  unfold Eff.app
  split
  · cases dst <;> rfl
  · cases e.nw
    · cases dst <;> rfl
    · rfl
theorem put_lk (σ : St) (dst : Option Tmp) (x : AVal) (t : Nat) : lk (σ.put dst x).T t = if dst = some t then x else lk σ.T t := by
  cases dst with
  | none => simp [St.put]
  | some d => simp [St.put, lk_setT]
theorem put_H (σ : St) (dst : Option Tmp) (x : AVal) : (σ.put dst x).H = σ.H := by cases dst <;> rfl
theorem app_lk (hf : e.fits c σ.lev dst) (h0 : Fr0 σ c dst) (t : Nat) : lk (e.app σ dst).T t = if dst = some t then e.r else lk σ.T t := by
  cases c with
  | pure => simp only [Eff.fits] at hf; simp only [Eff.app, hf]; exact put_lk ..
  | mem l s w =>
    cases w with
    | false => simp only [Eff.fits] at hf; simp only [Eff.app, hf]; exact put_lk ..
    | true => obtain ⟨h1, ob, h2⟩ := hf; simp only [Eff.app, h1, h2, cond_false]; exact put_lk ..
  | new =>
    obtain ⟨h1, d, ob, rfl, h2⟩ := hf
    have hF := h0 rfl d rfl
    simp only [Eff.app, h1, h2, cond_true, St.alloc, lk_setT, lk_purgeT, hF.1, Option.some.injEq]
theorem app_H (hf : e.fits c σ.lev dst) (h0 : Fr0 σ c dst) (l t : Nat) : (e.app σ dst).H l t = match e.up with | none => σ.H l t | some (l', t', ob) => if l = l' ∧ t = t' then ob else σ.H l t := by
  cases c with
  | pure => simp only [Eff.fits] at hf; simp only [Eff.app, hf, put_H]
  | mem l' s w =>
    cases w with
    | false => simp only [Eff.fits] at hf; simp only [Eff.app, hf, put_H]
    | true =>
      obtain ⟨h1, ob, h2⟩ := hf
      simp only [Eff.app, h1, h2, cond_false, put_H, Hp.set]
      by_cases hq : l = l' ∧ t = s
      · obtain ⟨rfl, rfl⟩ := hq; simp
      · rw [if_neg hq]
        have : (l == l' && t == s) = false := by simpa using hq
        rw [this]; rfl
  | new =>
    obtain ⟨h1, d, ob, rfl, h2⟩ := hf
    have hF := h0 rfl d rfl
    simp only [Eff.app, h1, h2, cond_true, St.alloc, Hp.alloc]
    by_cases hl : l = σ.lev
    · subst hl
      by_cases ht : t = d
      · subst ht; simp
      · have e2 : (t == d) = false := by simpa using ht
        simp [e2, ht, hF.2]
    · have e1 : (l == σ.lev) = false := by simpa using hl
      simp [e1, hl]
theorem app_fre {l t : Nat} (hf : e.fits c σ.lev dst) (h0 : Fr0 σ c dst) (h : Fre l t σ) (he : e.free l t) : Fre l t (e.app σ dst) := by
  refine ⟨fun j => ?_, fun l' t' => ?_⟩
  · rw [app_lk hf h0]
    split
    · exact he.1
    · exact h.1 j
  · rw [app_H hf h0]
    split
    · exact h.2 l' t'
    · rename_i l2 t2 ob hu
      split
      · exact he.2 _ hu
      · exact h.2 l' t'
theorem Fre.eqv {l t : Nat} {τ : St} (h : Fre l t σ) (hE : Eqv σ τ) : Fre l t τ := ⟨fun j => by rw [hE.T]; exact h.1 j, fun l' t' => by rw [hE.H]; exact h.2 l' t'⟩
theorem app_eqv {τ : St} (hf : e.fits c σ.lev dst) (h0 : Fr0 σ c dst) (hE : Eqv σ τ) : Eqv (e.app σ dst) (e.app τ dst) := by
  have h0' : Fr0 τ c dst := fun hc d hd => by rw [hE.lev]; exact (h0 hc d hd).eqv hE
  have hf' : e.fits c τ.lev dst := by rw [hE.lev]; exact hf
  refine ⟨by rw [app_n, app_n, hE.n], by rw [app_lev, app_lev, hE.lev], ?_, fun t => by rw [app_lk hf h0, app_lk hf' h0', hE.T]⟩
  funext l t
  rw [app_H hf h0, app_H hf' h0', hE.H]
theorem app_comm {e' : Eff} {c' : Cl} {dst' : Option Tmp} (hf : e.fits c σ.lev dst) (h0 : Fr0 σ c dst) (hf' : e'.fits c' σ.lev dst') (h0' : Fr0 σ c' dst') (h1 : Fr0 (e'.app σ dst') c dst) (h1' : Fr0 (e.app σ dst) c' dst')
    (hd : ∀ d, dst = some d → dst' ≠ some d) (hu : ∀ u u', e.up = some u → e'.up = some u' → ¬ (u.1 = u'.1 ∧ u.2.1 = u'.2.1)) : Eqv (e'.app (e.app σ dst) dst') (e.app (e'.app σ dst') dst) := by
  have g1 : e.fits c (e'.app σ dst').lev dst := by rw [app_lev]; exact hf
  have g2 : e'.fits c' (e.app σ dst).lev dst' := by rw [app_lev]; exact hf'
  refine ⟨by simp only [app_n], by simp only [app_lev], ?_, fun t => ?_⟩
  · funext l t
    rw [app_H g1 h1, app_H g2 h1', app_H hf h0, app_H hf' h0']
    cases hx : e.up with
    | none => cases hy : e'.up <;> rfl
    | some u =>
      cases hy : e'.up with
      | none => rfl
      | some u' =>
        have := hu u u' hx hy
        simp only
        by_cases a : l = u.1 ∧ t = u.2.1
        · by_cases b : l = u'.1 ∧ t = u'.2.1
          · exact absurd ⟨a.1.symm.trans b.1, a.2.symm.trans b.2⟩ this
          · simp [a, b]
            intro b1 b2
            exact absurd ⟨a.1.trans b1, a.2.trans b2⟩ b
        · simp [a]
  · rw [app_lk g1 h1, app_lk g2 h1', app_lk hf h0, app_lk hf' h0']
    by_cases a : dst = some t
    · have := hd t a
      rw [if_pos a, if_neg this, if_pos a]
    · rw [if_neg a, if_neg a]
end

/-! ### One operation of such a region -/
def Agr (c : Cl) (ls : List Tmp) (σ τ : St) : Prop := τ.n = σ.n ∧ τ.lev = σ.lev ∧ (∀ t ∈ ls, lk τ.T t = lk σ.T t) ∧ ∀ l t w, c = .mem l t w → τ.H l t = σ.H l t
def dS (A : Prop) (K : Option Cl → St → Prop) : Option Cl → Option St → Prop
  | _, none => False
  | none, some σ' => A ∧ K none σ'
  | some c, some σ' => K (some c) σ'
def DCall (P : Program) (A : Prop) (K : Option Cl → St → Prop) (σ : St) (dst : Option Tmp) (f : FuncId) (args : List AVal) : Prop :=
  (∃ r, allD args = true ∧ r.bel 0 = true ∧ PCalls P f (args.map datum) r ∧ K (some .pure) (σ.put dst r)) ∨ (A ∧ CallOk P σ f args dst (K none))
@[congr] theorem dS_congr {A : Prop} {K : Option Cl → St → Prop} {c c' : Option Cl} {o o' : Option St} (h : c = c') (k : o = o') : dS A K c o = dS A K c' o' := by rw [h, k]
@[congr] theorem DCall_congr {P : Program} {A : Prop} {K : Option Cl → St → Prop} {σ σ' : St} {dst : Option Tmp} {f : FuncId} {args args' : List AVal} (h : σ = σ') (k : args = args') : DCall P A K σ dst f args = DCall P A K σ' dst f args' := by rw [h, k]
noncomputable def dC (P : Program) (A : Prop) (K : Option Cl → St → Prop) (o : Oper) (σ : St) : Option (FuncId × List AVal) → Prop
  | some (f, args) => okDst σ.n o.dst = true ∧ DCall P A K σ o.dst f args
  | none => dS A K (cls P σ o.op) (stepOp P σ o)
@[congr] theorem dC_congr {P : Program} {A : Prop} {K : Option Cl → St → Prop} {o : Oper} {σ : St} {c c' : Option (FuncId × List AVal)} (h : c = c') : dC P A K o σ c = dC P A K o σ c' := by rw [h]
noncomputable def DOp (P : Program) (ops : Array Oper) (A : Prop) (K : Option Cl → St → Prop) (o : Oper) (σ : St) : Prop :=
  aG (fun b => aIf b (dC P A K o σ (callD σ o.op)) (okDst σ.n o.dst = true ∧ K (some .pure) (σ.put o.dst (.tup [])))) (gdOf ops σ o)
theorem DOp_sound {P : Program} {ops : Array Oper} {A : Prop} {K : Option Cl → St → Prop} {KK : Act → World → Prop} {Q : Exit → Act → World → Prop} {i : Nat} {o : Oper} {E : Env} {σ : St} {a : Act} {w : World} {Kt : Kt} (ho : ops[i]? = some o)
    (hK : ∀ c σ' a' w' K', K c σ' → Rel E σ' a' w' K' → KK a' w') (h : DOp P ops A K o σ) (hR : Rel E σ a w Kt) : wpOp P ops Q i KK a w := by
  unfold wpOp
  rw [ho]
  simp only
  unfold DOp at h
  cases hg : gdOf ops σ o with
  | none => rw [hg] at h; exact h.elim
  | some b =>
    rw [hg] at h
    simp only [aG] at h
    have hw := gdOf_eq hR hg
    cases b with
    | false =>
      rw [aIf_false] at h
      rw [hw, if_neg (by simp)]
      exact hK _ _ _ _ _ h.2 (hR.put_pure h.1 (.tup (xs := []) (vs := []) rfl (by simp)) rfl)
    | true =>
      rw [aIf_true] at h
      rw [hw, if_pos rfl]
      left
      cases hc : callD σ o.op with
      | some p =>
        obtain ⟨f, args⟩ := p
        rw [hc] at h
        simp only [dC] at h
        obtain ⟨hd, h⟩ := h
        have h2 : ∃ c, CallOk P σ f args o.dst (K c) := by
          rcases h with ⟨r, h1, h2, h3, h4⟩ | h
          · exact ⟨_, .inl ⟨_, σ, r, frzL_allD σ h1, h3, by cases scalarA r <;> exact h4⟩⟩
          · exact ⟨_, h.2⟩
        obtain ⟨c, h2⟩ := h2
        have hb : hasBody P f = true := by
          rcases h2 with ⟨_, _, _, _, h, _⟩ | ⟨_, _, _, _, h⟩ | ⟨_, _, _, _, _, _, _, _, h, _⟩
          · exact h.1
          · exact h.1
          · exact h.1
        obtain ⟨vs, hrun, hp, hbel⟩ := run_call hR (show callOf σ o = some (f, args) from hc) hb
        unfold Oper.wp
        rw [hrun]
        simp only [Oper.upon_enter]
        refine (callOk_sound hR hd hp hbel h2).mono ?_
        rintro e w' ⟨v, σ', K', rfl, hN', hR'⟩
        exact hK _ _ _ _ _ hN' hR'
      | none =>
        rw [hc] at h
        simp only [dC] at h
        cases hs : stepOp P σ o with
        | none => rw [hs] at h; cases hcl : cls P σ o.op <;> rw [hcl] at h <;> exact h.elim
        | some σ' =>
          have h2 : ∃ c, K c σ' := by
            rw [hs] at h
            cases hcl : cls P σ o.op with
            | none => rw [hcl] at h; exact ⟨_, h.2⟩
            | some c => rw [hcl] at h; exact ⟨_, h⟩
          obtain ⟨c, h2⟩ := h2
          obtain ⟨v, w', K', hrun, hR'⟩ := step_ok hs E a w Kt hR
          unfold Oper.wp
          rcases hrun with hrun | ⟨hrun, rfl⟩
          · rw [hrun, Oper.upon_value]
            exact hK _ _ _ _ _ h2 hR'
          · rw [hrun, Oper.upon_skip]
            exact hK _ _ _ _ _ h2 hR'
structure Step (P : Program) (ops : Array Oper) (o : Oper) (σ : St) (c : Cl) (e : Eff) : Prop where
  fits : e.fits c σ.lev o.dst
  new : c = .new → newK o.op = true
  go : ∀ τ A K', Agr c (o.looksAt ops) σ τ → K' (some c) (e.app τ o.dst) → DOp P ops A K' o τ
  slot : ∀ l t, (∀ j ∈ o.looksAt ops, (lk σ.T j).purge l t = lk σ.T j) → ∀ l' t' w, c = .mem l' t' w → ¬ (l' = l ∧ t' = t)
  free : ∀ l t, (∀ j ∈ o.looksAt ops, (lk σ.T j).purge l t = lk σ.T j) → (∀ l' t' w, c = .mem l' t' w → (σ.H l' t').purge l t = σ.H l' t') → (c = .new → ¬ (l = σ.lev ∧ o.dst = some t)) → e.free l t
theorem looks_op {ops : Array Oper} {o : Oper} {t : Tmp} (h : Operand.tmp t ∈ o.op.operands.toList) : t ∈ o.looksAt ops := by
  unfold Oper.looksAt
  refine List.mem_append.2 (.inl (List.mem_filterMap.2 ⟨_, h, rfl⟩))
theorem agr_ev {ops : Array Oper} {o : Oper} {σ τ : St} (h : ∀ t ∈ o.looksAt ops, lk τ.T t = lk σ.T t) : ∀ x ∈ o.op.operands.toList, evO τ x = evO σ x := by
  intro x hx
  cases x with
  | tmp t => exact h t (looks_op hx)
  | _ => rfl
theorem free_ev {ops : Array Oper} {o : Oper} {σ : St} {l s : Nat} (h : ∀ t ∈ o.looksAt ops, (lk σ.T t).purge l s = lk σ.T t) : ∀ x ∈ o.op.operands.toList, (evO σ x).purge l s = evO σ x := by
  intro x hx
  cases x with
  | tmp t => exact h t (looks_op hx)
  | const c => exact fr_const c l s
  | global g => rfl
  | func f => rfl
theorem agr_gd {ops : Array Oper} {o : Oper} {σ τ : St} (h : ∀ t ∈ o.looksAt ops, lk τ.T t = lk σ.T t) : gdOf ops τ o = gdOf ops σ o := by
  unfold gdOf
  cases hg : o.guard with
  | none => rfl
  | some p =>
    obtain ⟨g, want⟩ := p
    simp only
    cases hd : (ops[g]?).bind (·.dst) with
    | none => rfl
    | some d =>
      have : d ∈ o.looksAt ops := by
        unfold Oper.looksAt
        refine List.mem_append.2 (.inr ?_)
        rw [hg]
        simp [hd]
      simp only [Option.bind_some, h d this]
theorem agr_evL {σ τ : St} : ∀ {xs : List Operand}, (∀ x ∈ xs, evO τ x = evO σ x) → evL τ xs = evL σ xs
  | [], _ => rfl
  | x :: r, h => by rw [evL, evL, h x (by simp), agr_evL fun y hy => h y (List.mem_cons_of_mem _ hy)]
theorem agr_call {σ τ : St} {op : Op} (h : ∀ x ∈ op.operands.toList, evO τ x = evO σ x) : callD τ op = callD σ op := by
  cases op with
  | call c =>
    obtain ⟨cal, args, ats⟩ := c
    cases cal with
    | value f =>
      have h1 : evO τ f = evO σ f := h f (by simp [Op.operands, Call.operands])
      have h2 : evL τ args.toList = evL σ args.toList := agr_evL fun x hx => h x (by simp [Op.operands, Call.operands]; right; simpa using hx)
      simp only [callD, h1, h2]
    | _ => rfl
  | _ => rfl
theorem DOp_step {P : Program} {ops : Array Oper} {A : Prop} {K : Option Cl → St → Prop} {o : Oper} {σ : St} (h : DOp P ops A K o σ) : A ∨ ∃ c e, Step P ops o σ c e ∧ K (some c) (e.app σ o.dst) := by
  unfold DOp at h
  cases hg : gdOf ops σ o with
  | none => rw [hg] at h; exact h.elim
  | some b =>
    rw [hg] at h
    simp only [aG] at h
    cases b with
    | false =>
      rw [aIf_false] at h
      refine .inr ⟨.pure, pv (.tup []), ⟨rfl, (fun h => by cases h), fun τ A K' hA hK => ?_, fun _ _ _ _ _ _ h => (by cases h), fun _ _ _ _ _ => ⟨rfl, fun u hu => (by cases hu)⟩⟩, h.2⟩
      unfold DOp
      rw [agr_gd hA.2.2.1, hg]
      simp only [aG, aIf_false]
      exact ⟨by rw [hA.1]; exact h.1, hK⟩
    | true =>
      rw [aIf_true] at h
      cases hc : callD σ o.op with
      | some p =>
        obtain ⟨f, args⟩ := p
        rw [hc] at h
        simp only [dC] at h
        obtain ⟨hd, h⟩ := h
        rcases h with ⟨r, h1, h2, h3, h4⟩ | h
        · refine .inr ⟨.pure, pv r, ⟨rfl, (fun h => by cases h), fun τ A K' hA hK => ?_, fun _ _ _ _ _ _ h => (by cases h), fun l t _ _ _ => ⟨AVal.purge_bel (Nat.zero_le _) _ h2, fun u hu => (by cases hu)⟩⟩, h4⟩
          unfold DOp
          rw [agr_gd hA.2.2.1, hg]
          simp only [aG, aIf_true]
          rw [agr_call (agr_ev hA.2.2.1), hc]
          exact ⟨by rw [hA.1]; exact hd, .inl ⟨r, h1, h2, h3, hK⟩⟩
        · exact .inl h.1
      | none =>
        rw [hc] at h
        simp only [dC] at h
        cases hcl : cls P σ o.op with
        | none =>
          rw [hcl] at h
          cases hs : stepOp P σ o with
          | none => rw [hs] at h; exact h.elim
          | some σ' => rw [hs] at h; exact .inl h.1
        | some c =>
          rw [hcl] at h
          cases hs : stepOp P σ o with
          | none => rw [hs] at h; exact h.elim
          | some σ' =>
            rw [hs] at h
            simp only [dS] at h
            unfold stepOp at hs
            cases hd : okDst σ.n o.dst with
            | false => rw [hd] at hs; cases hs
            | true =>
              rw [hd] at hs
              simp only [cond_true] at hs
              rw [ev1_ok hcl] at hs
              obtain ⟨e, he, rfl⟩ := Option.map_eq_some_iff.1 hs
              have hE := ev1_eff (show cls1 P σ.H o.op (opVals σ o.op) = some c from hcl) he
              have hop : ∀ l t, (∀ j ∈ o.looksAt ops, (lk σ.T j).purge l t = lk σ.T j) → ∀ x ∈ opVals σ o.op, x.purge l t = x := fun l t hj x hx => by
                obtain ⟨y, hy, rfl⟩ := List.mem_map.1 hx
                exact free_ev hj y hy
              refine .inr ⟨c, e, ⟨hE.fits, fun hc => cls1_newK (by rw [← hc]; exact hcl), fun τ A K' hA hK => ?_, fun l t hj => hE.slot l t (hop l t hj), fun l t hj hH hn => hE.free l t (hop l t hj) hH hn⟩, h⟩
              have hv : opVals τ o.op = opVals σ o.op := List.map_congr_left (agr_ev hA.2.2.1)
              have hcl' : cls P τ o.op = some c := by
                unfold cls
                rw [hv]
                exact cls1_congr hcl hA.2.2.2
              unfold DOp
              rw [agr_gd hA.2.2.1, hg]
              simp only [aG, aIf_true]
              rw [agr_call (agr_ev hA.2.2.1), hc]
              simp only [dC, hcl', stepOp, hA.1, hd, cond_true]
              rw [ev1_ok hcl', hv, ev1_congr (show cls1 P σ.H o.op (opVals σ o.op) = some c from hcl) hA.2.2.2, hA.2.1, he]
              exact hK
end Go.Fw
/- One order stands for all: the proof. -/
set_option autoImplicit false
namespace Go.Fw
abbrev Rec := Nat × Nat × Nat × Bool
abbrev OrdF := Nat → Nat → Bool
def ordB (ms : List Nat) (i j : Nat) : Bool := (ms.getD i 0).testBit j || (ms.getD j 0).testBit i
def recB (O : OrdF) (i l t : Nat) (w : Bool) : List Rec → Bool
  | [] => true
  | (j, l', t', w') :: rs => (bif Nat.beq l l' && Nat.beq t t' && (w || w') then O i j else true) && recB O i l t w rs
def OkR (O : OrdF) (i : Nat) (c : Option Cl) (rs : List Rec) : Prop :=
  match c with
  | some (.mem l t w) => recB O i l t w rs = true
  | _ => True
def addR (i : Nat) (c : Option Cl) (rs : List Rec) : List Rec :=
  match c with
  | some (.mem l t w) => (i, l, t, w) :: rs
  | _ => rs
def aloneB (ops : Array Oper) (ms : List Nat) (i : Nat) : Bool := (List.range ops.size).all fun j => j == i || (ordB ms i j && (Nat.blt j i || !((ops[j]?).any fun o => newK o.op)))
theorem recB_iff {O : OrdF} {i l t : Nat} {w : Bool} : ∀ {rs : List Rec}, recB O i l t w rs = true ↔ ∀ r ∈ rs, O i r.1 = true ∨ ¬ (l = r.2.1 ∧ t = r.2.2.1) ∨ (w = false ∧ r.2.2.2 = false)
  | [] => by simp [recB]
  | (j, l', t', w') :: rs => by
    simp only [recB, Bool.and_eq_true, recB_iff (rs := rs), List.forall_mem_cons]
    refine and_congr_left fun _ => ?_
    by_cases h : l = l' ∧ t = t'
    · obtain ⟨rfl, rfl⟩ := h
      cases w <;> cases w' <;> simp
    · have e : (Nat.beq l l' && Nat.beq t t') = false := by
        cases h1 : Nat.beq l l'
        · rfl
        · cases h2 : Nat.beq t t'
          · rfl
          · exact absurd ⟨Nat.eq_of_beq_eq_true h1, Nat.eq_of_beq_eq_true h2⟩ h
      rw [e]
      simp [h]
theorem OkR.sub {O : OrdF} {i : Nat} {c : Option Cl} {rs rs' : List Rec} (h : OkR O i c rs) (hs : ∀ r ∈ rs', r ∈ rs) : OkR O i c rs' := by
  unfold OkR at *
  split
  · simp only at h; exact recB_iff.2 fun r hr => recB_iff.1 h r (hs r hr)
  · trivial
theorem addR_sub {i : Nat} {c : Option Cl} {rs rs' : List Rec} (hs : ∀ r ∈ rs', r ∈ rs) : ∀ r ∈ addR i c rs', r ∈ addR i c rs := by
  unfold addR
  split
  · intro r hr
    rcases List.mem_cons.1 hr with h | h
    · exact List.mem_cons.2 (.inl h)
    · exact List.mem_cons_of_mem _ (hs r h)
  · exact hs
theorem addR_keep {i : Nat} {c : Option Cl} {rs : List Rec} : ∀ r ∈ rs, r ∈ addR i c rs := by
  unfold addR
  split
  · exact fun r hr => List.mem_cons_of_mem _ hr
  · exact fun r hr => hr
noncomputable def dAny (P : Program) (ops : Array Oper) (ms : List Nat) (N : St → Prop) : Nat → Array Bool → List Rec → St → Prop
  | 0, listed, _, σ => Region.ready .any ops listed = [] ∧ ∃ τ, Eqv τ σ ∧ N τ
  | f + 1, listed, rs, σ => (Region.ready .any ops listed = [] → ∃ τ, Eqv τ σ ∧ N τ) ∧ ∀ i ∈ Region.ready .any ops listed, ∀ o, ops[i]? = some o → ∃ τ, Eqv τ σ ∧
      DOp P ops (aloneB ops ms i = true) (fun c σ' => OkR (ordB ms) i c rs ∧ dAny P ops ms N f (listed.setIfInBounds i true) (addR i c rs) σ') o τ
section
variable {P : Program} {ops : Array Oper} {ms : List Nat} {N : St → Prop}
theorem dAny_eqv : ∀ {f : Nat} {listed : Array Bool} {rs : List Rec} {σ σ' : St}, Eqv σ σ' → dAny P ops ms N f listed rs σ → dAny P ops ms N f listed rs σ'
  | 0, _, _, _, _, hE, ⟨h, τ, h1, h2⟩ => ⟨h, τ, h1.trans hE, h2⟩
  | f + 1, _, _, _, _, hE, ⟨h, k⟩ => ⟨fun hr => let ⟨τ, h1, h2⟩ := h hr; ⟨τ, h1.trans hE, h2⟩, fun i hi o ho => let ⟨τ, h1, h2⟩ := k i hi o ho; ⟨τ, h1.trans hE, h2⟩⟩
theorem DOp.mono {A : Prop} {K K' : Option Cl → St → Prop} {o : Oper} {σ : St} (h : DOp P ops A K o σ) (hk : ∀ c σ', K c σ' → K' c σ') : DOp P ops A K' o σ := by
  unfold DOp at *
  cases hg : gdOf ops σ o with
  | none => rw [hg] at h; exact h.elim
  | some b =>
    rw [hg] at h
    simp only [aG] at h ⊢
    cases b with
    | false => rw [aIf_false] at h ⊢; exact ⟨h.1, hk _ _ h.2⟩
    | true =>
      rw [aIf_true] at h ⊢
      cases hc : callD σ o.op with
      | some p =>
        obtain ⟨f, args⟩ := p
        rw [hc] at h
        simp only [dC] at h ⊢
        refine ⟨h.1, ?_⟩
        rcases h.2 with ⟨r, h1, h2, h3, h4⟩ | ⟨ha, h⟩
        · exact .inl ⟨r, h1, h2, h3, hk _ _ h4⟩
        · refine .inr ⟨ha, ?_⟩
          rcases h with ⟨ds, σ1, r, h1, h2, h3⟩ | ⟨m, args', σ1, h1, h⟩ | ⟨bb, d, ds, σ1, sz, xs, h0, h1, h2, h3⟩
          · exact .inl ⟨ds, σ1, r, h1, h2, hk _ _ h3⟩
          · exact .inr (.inl ⟨m, args', σ1, h1, h.mono fun r H' hn => hk _ _ hn⟩)
          · exact .inr (.inr ⟨bb, d, ds, σ1, sz, xs, h0, h1, h2, hk _ _ h3⟩)
      | none =>
        rw [hc] at h
        simp only [dC] at h ⊢
        cases hs : stepOp P σ o with
        | none => rw [hs] at h; cases hcl : cls P σ o.op <;> rw [hcl] at h <;> exact h.elim
        | some σ' =>
          rw [hs] at h
          cases hcl : cls P σ o.op with
          | none => rw [hcl] at h; exact ⟨h.1, hk _ _ h.2⟩
          | some c => rw [hcl] at h; exact hk _ _ h
theorem dAny_sub : ∀ {f : Nat} {listed : Array Bool} {rs rs' : List Rec} {σ : St}, (∀ r ∈ rs', r ∈ rs) → dAny P ops ms N f listed rs σ → dAny P ops ms N f listed rs' σ
  | 0, _, _, _, _, _, h => h
  | f + 1, _, _, _, _, hs, ⟨h, k⟩ => ⟨h, fun i hi o ho => let ⟨τ, h1, h2⟩ := k i hi o ho; ⟨τ, h1, h2.mono fun c σ' ⟨a, b⟩ => ⟨a.sub hs, dAny_sub (addR_sub hs) b⟩⟩⟩
theorem dAny_sound {Q : Exit → Act → World → Prop} {E : Env} (hN : ∀ σ a w K, N σ → Rel E σ a w K → Q .normal a w) : ∀ (f : Nat) (listed : Array Bool) (rs : List Rec) (σ : St) (a : Act) (w : World) (K : Kt), dAny P ops ms N f listed rs σ → Rel E σ a w K → wpAny P .any ops Q f listed a w
  | 0, _, _, _, _, _, _, ⟨h, τ, h1, h2⟩, hR => ⟨h, hN τ _ _ _ h2 (hR.eqv h1.symm)⟩
  | f + 1, listed, rs, σ, a, w, K, ⟨h, k⟩, hR => by
    refine ⟨fun hr => let ⟨τ, h1, h2⟩ := h hr; hN τ _ _ _ h2 (hR.eqv h1.symm), fun i hi => ?_⟩
    obtain ⟨_, o, ho, _⟩ := mem_ready.1 hi
    obtain ⟨τ, h1, h2⟩ := k i hi o ho
    exact DOp_sound ho (fun c σ' a' w' K' hk hR' => dAny_sound hN f _ _ σ' a' w' K' hk.2 hR') h2 (hR.eqv h1.symm)
def closed (ops : Array Oper) (listed : Array Bool) : Prop := ∀ (j : Nat) (oj : Oper), ops[j]? = some oj → listed.getD j false = true → ∀ e ∈ oj.after, Region.binds .any e = true → listed.getD e.on false = true
structure Stat (ops : Array Oper) (ms : List Nat) : Prop where
  anc : ∀ (listed : Array Bool) (j : Nat) (oj : Oper) (i : Nat), closed ops listed → ops[j]? = some oj → (∀ e ∈ oj.after, Region.binds .any e = true → listed.getD e.on false = true) → (ms.getD j 0).testBit i = true → listed.getD i false = true
  apart : ∀ (i j : Nat) (oi oj : Oper), ops[i]? = some oi → ops[j]? = some oj → i ≠ j → ordB ms i j = false → oi.apart ops oj = true
  dst : ∀ (i j : Nat) (oi oj : Oper) (d : Tmp), ops[i]? = some oi → ops[j]? = some oj → i ≠ j → newK oj.op = true → oj.dst = some d → oi.dst ≠ some d
def FreeU (ops : Array Oper) (listed : Array Bool) (σ : St) : Prop := ∀ (j : Nat) (oj : Oper) (d : Tmp), ops[j]? = some oj → listed.getD j true = false → newK oj.op = true → oj.dst = some d → Fre σ.lev d σ
theorem ne_listed {listed : Array Bool} {i : Nat} (h : listed.getD i true = false) : ¬ listed.getD i false = true := by
  rw [Array.getD_eq_getD_getElem?] at *
  cases hx : listed[i]? with
  | none => rw [hx] at h; simp at h
  | some b => rw [hx] at h; simp at h; simp [h]
theorem not_ord {listed : Array Bool} {i j : Nat} (hS : Stat ops ms) (hc : closed ops listed) (hi : i ∈ Region.ready .any ops listed) (hj : j ∈ Region.ready .any ops listed) : ordB ms i j = false := by
  obtain ⟨hi0, oi, hoi, hia⟩ := mem_ready.1 hi
  obtain ⟨hj0, oj, hoj, hja⟩ := mem_ready.1 hj
  cases h : ordB ms i j with
  | false => rfl
  | true =>
    simp only [ordB, Bool.or_eq_true] at h
    rcases h with h | h
    · exact absurd (hS.anc listed i oi j hc hoi (fun e he hb => hia e he hb) h) (ne_listed hj0)
    · exact absurd (hS.anc listed j oj i hc hoj (fun e he hb => hja e he hb) h) (ne_listed hi0)
theorem closed.add {listed : Array Bool} {i : Nat} (hc : closed ops listed) (hi : i ∈ Region.ready .any ops listed) : closed ops (listed.setIfInBounds i true) := by
  intro j oj hj hl e he hb
  by_cases hij : i = j
  · subst hij
    obtain ⟨_, o, ho, hall⟩ := mem_ready.1 hi
    rw [ho] at hj
    cases hj
    exact getD_set_true (hall e he hb)
  · rw [getD_set_ne false hij] at hl
    exact getD_set_true (hc j oj hj hl e he hb)
theorem ordB_comm (i j : Nat) : ordB ms i j = ordB ms j i := by unfold ordB; rw [Bool.or_comm]
theorem alone_not {i j : Nat} (h : aloneB ops ms i = true) (hj : j < ops.size) (hne : j ≠ i) : ordB ms i j = true := by
  unfold aloneB at h
  rw [List.all_eq_true] at h
  have := h j (List.mem_range.2 hj)
  simp only [Bool.or_eq_true, beq_iff_eq, Bool.and_eq_true] at this
  rcases this with h | h
  · exact absurd h hne
  · exact h.1
/-- The effect's use. -/
theorem Step.fr0 {o : Oper} {σ : St} {c : Cl} {e : Eff} {listed : Array Bool} {i : Nat} (h : Step P ops o σ c e) (ho : ops[i]? = some o) (hl : listed.getD i true = false) (hF : FreeU ops listed σ) : Fr0 σ c o.dst :=
  fun hc d hd => hF i o d ho hl (h.new hc) hd
theorem FreeU.step {o : Oper} {σ : St} {c : Cl} {e : Eff} {listed : Array Bool} {i : Nat} (hS : Stat ops ms) (hF : FreeU ops listed σ) (h : Step P ops o σ c e) (ho : ops[i]? = some o) (hl : listed.getD i true = false) :
    FreeU ops (listed.setIfInBounds i true) (e.app σ o.dst) := by
  intro j oj d hj hlj hn hd
  have hij : i ≠ j := fun e => by
    subst e
    rw [Array.getD_eq_getD_getElem?, Array.getElem?_setIfInBounds] at hlj
    simp at hlj
    split at hlj <;> simp at hlj
  rw [getD_set_ne true hij] at hlj
  have hFj := hF j oj d hj hlj hn hd
  rw [app_lev]
  exact app_fre h.fits (h.fr0 ho hl hF) hFj (h.free _ _ (fun k _ => hFj.1 k) (fun _ _ _ _ => hFj.2 _ _) fun _ ⟨_, hx⟩ => hS.dst i j o oj d ho hj hij hn hd hx)
theorem FreeU.eqv {listed : Array Bool} {σ τ : St} (hF : FreeU ops listed σ) (hE : Eqv σ τ) : FreeU ops listed τ := fun j oj d hj hl hn hd => by rw [hE.lev]; exact (hF j oj d hj hl hn hd).eqv hE
theorem up_slot {e : Eff} {c : Cl} {lev : Nat} {dst : Option Tmp} {u : Nat × Nat × AObj} (hf : e.fits c lev dst) (hu : e.up = some u) : c = .mem u.1 u.2.1 true ∨ (c = .new ∧ u.1 = lev ∧ dst = some u.2.1) := by
  cases c with
  | pure => simp only [Eff.fits] at hf; rw [hf] at hu; cases hu
  | mem l t w =>
    cases w with
    | false => simp only [Eff.fits] at hf; rw [hf] at hu; cases hu
    | true => obtain ⟨_, ob, h⟩ := hf; rw [h] at hu; cases hu; exact .inl rfl
  | new => obtain ⟨_, d, ob, rfl, h⟩ := hf; rw [h] at hu; cases hu; exact .inr ⟨rfl, rfl, rfl⟩
/-- Another's step leaves what is looked at. -/
theorem Step.agr {o o' : Oper} {σ : St} {c c' : Cl} {e' : Eff} (h' : Step P ops o' σ c' e') (h0' : Fr0 σ c' o'.dst) (hlk : ∀ d, o'.dst = some d → d ∉ o.looksAt ops)
    (hm : ∀ l t w l' t', c = .mem l t w → c' = .mem l' t' true → ¬ (l = l' ∧ t = t')) (hn : ∀ l t w d, c = .mem l t w → c' = .new → o'.dst = some d → ¬ (l = σ.lev ∧ t = d)) : Agr c (o.looksAt ops) σ (e'.app σ o'.dst) := by
  refine ⟨app_n, app_lev, fun t ht => ?_, fun l t w hc => ?_⟩
  · rw [app_lk h'.fits h0', if_neg (fun e => hlk t e ht)]
  · rw [app_H h'.fits h0']
    cases hu : e'.up with
    | none => rfl
    | some u =>
      simp only
      rw [if_neg]
      rintro ⟨rfl, rfl⟩
      rcases up_slot h'.fits hu with e | ⟨e, h1, h2⟩
      · exact hm _ _ _ _ _ hc e ⟨rfl, rfl⟩
      · exact hn _ _ _ _ hc e h2 ⟨h1, rfl⟩
theorem Agr.trans {c : Cl} {ls : List Tmp} {σ τ ρ : St} (h : Agr c ls σ τ) (k : Agr c ls τ ρ) : Agr c ls σ ρ :=
  ⟨k.1.trans h.1, k.2.1.trans h.2.1, fun t ht => (k.2.2.1 t ht).trans (h.2.2.1 t ht), fun l t w hc => (k.2.2.2 l t w hc).trans (h.2.2.2 l t w hc)⟩
theorem Agr.symm {c : Cl} {ls : List Tmp} {σ τ : St} (h : Agr c ls σ τ) : Agr c ls τ σ := ⟨h.1.symm, h.2.1.symm, fun t ht => (h.2.2.1 t ht).symm, fun l t w hc => (h.2.2.2 l t w hc).symm⟩
theorem Agr.eqv {c : Cl} {ls : List Tmp} {σ τ : St} (h : Eqv σ τ) : Agr c ls σ τ := ⟨h.n, h.lev, fun t _ => h.T t, fun l t _ _ => by rw [h.H]⟩
theorem Step.move {o : Oper} {σ τ : St} {c : Cl} {e : Eff} (h : Step P ops o σ c e) (hA : Agr c (o.looksAt ops) σ τ) : Step P ops o τ c e := by
  refine ⟨by rw [hA.2.1]; exact h.fits, h.new, fun ρ A K' hB hK => h.go ρ A K' (hA.trans hB) hK, fun l t hj => h.slot l t fun j hj' => ?_, fun l t hj hH hn => h.free l t (fun j hj' => ?_) (fun l' t' w hc => ?_) (by rw [← hA.2.1]; exact hn)⟩
  · rw [← hA.2.2.1 j hj']; exact hj j hj'
  · rw [← hA.2.2.1 j hj']; exact hj j hj'
  · rw [← hA.2.2.2 l' t' w hc]; exact hH l' t' w hc
end
end Go.Fw
/- One order stands for all: the rule. -/
set_option autoImplicit false
namespace Go.Fw
section
variable {P : Program} {ops : Array Oper} {ms : List Nat} {N : St → Prop}
theorem Agr.refl (c : Cl) (ls : List Tmp) (σ : St) : Agr c ls σ σ := ⟨rfl, rfl, fun _ _ => rfl, fun _ _ _ _ => rfl⟩
theorem ready_lt {i : Nat} {listed : Array Bool} (h : i ∈ Region.ready .any ops listed) : i < ops.size := by
  obtain ⟨_, o, ho, _⟩ := mem_ready.1 h
  exact (Array.getElem?_eq_some_iff.1 ho).1
theorem rec_mem {O : OrdF} {i j l t l' t' : Nat} {w w' : Bool} {rs : List Rec} (h : OkR O j (some (.mem l' t' w')) (addR i (some (.mem l t w)) rs)) (hno : O j i = false) (hw : w = true ∨ w' = true) : ¬ (l = l' ∧ t = t') := by
  have := recB_iff.1 h (i, l, t, w) (List.mem_cons_self)
  rintro ⟨rfl, rfl⟩
  rcases this with h | h | ⟨h1, h2⟩
  · rw [hno] at h; cases h
  · exact h ⟨rfl, rfl⟩
  · simp only at h2
    rcases hw with hw | hw
    · rw [h2] at hw; cases hw
    · rw [h1] at hw; cases hw
theorem dAny_first (hS : Stat ops ms) {i : Nat} {oi : Oper} (hi : ops[i]? = some oi) : ∀ (f : Nat) (listed : Array Bool) (rs : List Rec) (σ : St) (c : Cl) (e : Eff), closed ops listed → FreeU ops listed σ → i ∈ Region.ready .any ops listed →
    Step P ops oi σ c e → OkR (ordB ms) i (some c) rs → dAny P ops ms N f (listed.setIfInBounds i true) (addR i (some c) rs) (e.app σ oi.dst) → dAny P ops ms N (f + 1) listed rs σ := by
  intro f
  induction f with
  | zero =>
    intro listed rs σ c e hc hF hr hSi hOk H
    refine ⟨fun h => (by rw [h] at hr; cases hr), fun j hj oj hoj => ?_⟩
    by_cases hji : j = i
    · subst hji
      rw [hi] at hoj
      cases hoj
      exact ⟨σ, .refl σ, hSi.go σ _ _ (.refl ..) ⟨hOk, H⟩⟩
    · have := ready_mono hj hji
      rw [H.1] at this
      cases this
  | succ f ih =>
    intro listed rs σ c e hc hF hr hSi hOk H
    refine ⟨fun h => (by rw [h] at hr; cases hr), fun j hj oj hoj => ?_⟩
    by_cases hji : j = i
    · subst hji
      rw [hi] at hoj
      cases hoj
      exact ⟨σ, .refl σ, hSi.go σ _ _ (.refl ..) ⟨hOk, H⟩⟩
    · have hli := (mem_ready.1 hr).1
      have hlj := (mem_ready.1 hj).1
      have hno : ordB ms i j = false := not_ord hS hc hr hj
      have hno' : ordB ms j i = false := by rw [ordB_comm]; exact hno
      obtain ⟨τ, hτ, hD⟩ := H.2 j (ready_mono hj hji) oj hoj
      rcases DOp_step hD with hA | ⟨cj, ej, hSj, hOkj, hKj⟩
      · exact absurd (alone_not hA (ready_lt hr) (Ne.symm hji)) (by rw [hno']; simp)
      · obtain ⟨ap1, ap2, ap3⟩ := Oper.apart_spec (hS.apart i j oi oj hi hoj (Ne.symm hji) hno)
        have h0i : Fr0 σ c oi.dst := hSi.fr0 hi hli hF
        have hSj' : Step P ops oj (e.app σ oi.dst) cj ej := hSj.move (.eqv hτ)
        have hlk : ∀ t ∈ oj.looksAt ops, lk (e.app σ oi.dst).T t = lk σ.T t := fun t ht => by
          rw [app_lk hSi.fits h0i, if_neg (fun e => ap1 t e ht)]
        have hA1 : Agr cj (oj.looksAt ops) σ (e.app σ oi.dst) := hSi.agr h0i ap1
          (fun l t w l' t' hcj hci => by subst hcj hci; exact fun ⟨a, b⟩ => rec_mem hOkj hno' (.inl rfl) ⟨a.symm, b.symm⟩)
          (fun l t w d hcj hci hd => by
            have hFd := h0i hci d hd
            exact hSj'.slot σ.lev d (fun k hk => by rw [hlk k hk]; exact hFd.1 k) l t w hcj)
        have hSj0 : Step P ops oj σ cj ej := hSj'.move hA1.symm
        have h0j : Fr0 σ cj oj.dst := hSj0.fr0 hoj hlj hF
        have hA2 : Agr c (oi.looksAt ops) σ (ej.app σ oj.dst) := hSj0.agr h0j ap3
          (fun l t w l' t' hci hcj => by subst hcj hci; exact rec_mem hOkj hno' (.inr rfl))
          (fun l t w d hci hcj hd => hSi.slot σ.lev d (fun k _ => (h0j hcj d hd).1 k) l t w hci)
        refine ⟨σ, .refl σ, hSj0.go σ _ _ (.refl ..) ⟨hOkj.sub addR_keep, ?_⟩⟩
        have hF1 : FreeU ops (listed.setIfInBounds j true) (ej.app σ oj.dst) := hF.step hS hSj0 hoj hlj
        have hF2 : FreeU ops (listed.setIfInBounds i true) (e.app σ oi.dst) := hF.step hS hSi hi hli
        have hli1 : (listed.setIfInBounds j true).getD i true = false := by rw [getD_set_ne true hji]; exact hli
        have hlj1 : (listed.setIfInBounds i true).getD j true = false := by rw [getD_set_ne true (Ne.symm hji)]; exact hlj
        have hSi1 : Step P ops oi (ej.app σ oj.dst) c e := hSi.move hA2
        refine ih (listed.setIfInBounds j true) (addR j (some cj) rs) (ej.app σ oj.dst) c e (hc.add hj) hF1 (ready_mono hr (Ne.symm hji)) hSi1 ?_ ?_
        · cases c with
          | mem l t w =>
            refine recB_iff.2 fun r hr' => ?_
            cases cj with
            | mem l' t' w' =>
              rcases List.mem_cons.1 hr' with rfl | hr'
              · by_cases hq : w = true ∨ w' = true
                · exact .inr (.inl (rec_mem hOkj hno' hq))
                · refine .inr (.inr ⟨?_, ?_⟩)
                  · cases w
                    · rfl
                    · exact absurd (.inl rfl) hq
                  · simp only
                    cases w'
                    · rfl
                    · exact absurd (.inr rfl) hq
              · exact recB_iff.1 hOk r hr'
            | _ => exact recB_iff.1 hOk r hr'
          | _ => trivial
        · have E1 : Eqv (ej.app τ oj.dst) (ej.app (e.app σ oi.dst) oj.dst) := app_eqv hSj.fits ((hSj.fr0 hoj hlj1 (hF2.eqv hτ.symm))) hτ
          have E2 : Eqv (ej.app (e.app σ oi.dst) oj.dst) (e.app (ej.app σ oj.dst) oi.dst) := by
            refine app_comm hSi.fits h0i hSj0.fits h0j (hSi1.fr0 hi hli1 hF1) (hSj'.fr0 hoj hlj1 hF2) ap2 (fun u u' hu hu' => ?_)
            rcases up_slot hSi.fits hu with a | ⟨a, a1, a2⟩
            · rcases up_slot hSj0.fits hu' with b | ⟨b, b1, b2⟩
              · subst a b; exact rec_mem hOkj hno' (.inl rfl)
              · rw [b1]
                exact hSi.slot σ.lev _ (fun k _ => (h0j b _ b2).1 k) _ _ _ a
            · rcases up_slot hSj0.fits hu' with b | ⟨b, b1, b2⟩
              · rw [a1]
                have := hSj0.slot σ.lev _ (fun k _ => (h0i a _ a2).1 k) _ _ _ b
                exact fun ⟨q1, q2⟩ => this ⟨q1.symm, q2.symm⟩
              · rintro ⟨_, q2⟩
                rw [q2] at a2
                exact ap2 _ a2 b2
          have := dAny_eqv (E1.trans E2) hKj
          rw [Array.setIfInBounds_comm _ _ hji]
          refine dAny_sub (fun r hr' => ?_) this
          cases c with
          | mem l t w =>
            cases cj with
            | mem l' t' w' =>
              rcases List.mem_cons.1 hr' with h | hr'
              · exact List.mem_cons_of_mem _ (List.mem_cons.2 (.inl h))
              · rcases List.mem_cons.1 hr' with h | hr'
                · exact List.mem_cons.2 (.inl h)
                · exact List.mem_cons_of_mem _ (List.mem_cons_of_mem _ hr')
            | _ => exact hr'
          | _ => exact hr'

/-! ### The one order -/
def lexB (ops : Array Oper) : Nat → Nat → Array Bool → Bool
  | 0, _, listed => (Region.ready .any ops listed).isEmpty
  | f + 1, k, listed => (Region.ready .any ops listed).contains k && lexB ops f (k + 1) (listed.setIfInBounds k true)
noncomputable def dOpsL (P : Program) (ops : Array Oper) (O : OrdF) (Al : Nat → Bool) (N : St → Prop) : List Oper → Nat → List Rec → St → Prop
  | [], _, _, σ => N σ
  | o :: l, k, rs, σ => DOp P ops (Al k = true) (fun c σ' => OkR O k c rs ∧ dOpsL P ops O Al N l (k + 1) (addR k c rs) σ') o σ
theorem dAny_lex (hS : Stat ops ms) : ∀ (l : List Oper) (k : Nat) (listed : Array Bool) (rs : List Rec) (σ : St), (∀ j, l[j]? = ops[k + j]?) → (∀ j, j < k → listed.getD j true = true) → lexB ops l.length k listed = true → closed ops listed → FreeU ops listed σ →
    dOpsL P ops (ordB ms) (aloneB ops ms) N l k rs σ → dAny P ops ms N l.length listed rs σ
  | [], k, listed, rs, σ, _, _, hB, _, _, h => ⟨by simpa [lexB] using hB, σ, .refl σ, h⟩
  | o :: l, k, listed, rs, σ, hl, hlt, hB, hc, hF, h => by
    have h0 : ops[k]? = some o := by simpa using (hl 0).symm
    simp only [List.length_cons, lexB, Bool.and_eq_true] at hB
    obtain ⟨hr, hB'⟩ := hB
    have hr : k ∈ Region.ready .any ops listed := by simpa using hr
    have hlk := (mem_ready.1 hr).1
    have hl' : ∀ j, l[j]? = ops[k + 1 + j]? := fun j => by have := hl (j + 1); simpa [Nat.add_assoc, Nat.add_comm 1 j] using this
    have hsz : k < listed.size := by
      rcases Nat.lt_or_ge k listed.size with h | h
      · exact h
      · rw [Array.getD_eq_getD_getElem?, Array.getElem?_eq_none h] at hlk; cases hlk
    have hlt' : ∀ j, j < k + 1 → (listed.setIfInBounds k true).getD j true = true := fun j hj => by
      by_cases e : k = j
      · subst e
        simp [hsz]
      · rw [getD_set_ne true e]; exact hlt j (by omega)
    simp only [dOpsL] at h
    rcases DOp_step h with hA | ⟨c, e, hSt, hOk, hK⟩
    · refine ⟨fun h => (by rw [h] at hr; cases hr), fun i hi oi hoi => ?_⟩
      by_cases hik : i = k
      · subst hik
        rw [h0] at hoi
        cases hoi
        refine ⟨σ, .refl σ, h.mono fun c σ' ⟨h1, h2⟩ => ⟨h1, dAny_lex hS l (i + 1) _ _ σ' hl' hlt' hB' (hc.add hr) ?_ h2⟩⟩
        intro j oj d hj hlj hn _
        exfalso
        have hji : j ≠ i := fun e => by
          subst e
          rw [hlt' j (Nat.lt_succ_self _)] at hlj
          cases hlj
        have hji2 : ¬ j < i := fun e => by
          rw [hlt' j (by omega)] at hlj
          cases hlj
        unfold aloneB at hA
        rw [List.all_eq_true] at hA
        have := hA j (List.mem_range.2 (Array.getElem?_eq_some_iff.1 hj).1)
        simp only [Bool.or_eq_true, beq_iff_eq, Bool.and_eq_true, Nat.blt_eq, hj, Option.any_some, hn, Bool.not_true, or_false, Bool.false_eq_true] at this
        rcases this with h | h
        · exact hji h
        · exact hji2 h.2
      · have h1 := not_ord hS hc hr hi
        have h2 := alone_not hA (ready_lt hi) hik
        rw [h1] at h2
        cases h2
    · exact dAny_first hS h0 l.length listed rs σ c e hc hF hr hSt hOk (dAny_lex hS l (k + 1) _ _ _ hl' hlt' hB' (hc.add hr) (hF.step hS hSt h0 hlk) hK)
end

/-! ### What is checked of a region -/
def maskOf (ms : List Nat) (o : Oper) : Nat := o.after.toList.foldl (fun m e => bif Region.binds .any e then (m ||| (1 <<< e.on) ||| ms.getD e.on 0) else m) 0
def masks (ops : Array Oper) : List Nat := ops.toList.foldl (fun ms o => ms ++ [maskOf ms o]) []
def statB (ops : Array Oper) (ms : List Nat) : Bool :=
  ((List.range ops.size).all fun i => (ops[i]?).all fun o => Nat.beq (ms.getD i 0) (maskOf ms o) && o.after.toList.all fun e => !Region.binds .any e || Nat.blt e.on i) &&
  (List.range ops.size).all fun i => (List.range ops.size).all fun j => i == j || ((ops[i]?).all fun oi => (ops[j]?).all fun oj => (ordB ms i j || oi.apart ops oj) && (!newK oj.op || oj.dst.isNone || oi.dst != oj.dst))
def newIn (ops : Array Oper) (ds : List Nat) : Bool := ops.toList.all fun o => !newK o.op || (o.dst.all fun d => ds.contains d)
def drawB (ops : Array Oper) (ds : List Nat) : Bool := statB ops (masks ops) && newIn ops ds && lexB ops ops.size 0 (Array.replicate ops.size false)
theorem mask_bit (ms : List Nat) (i : Nat) : ∀ (es : List Edge) (m : Nat), (es.foldl (fun m e => bif Region.binds .any e then (m ||| (1 <<< e.on) ||| ms.getD e.on 0) else m) m).testBit i = true →
    m.testBit i = true ∨ ∃ e ∈ es, Region.binds .any e = true ∧ (e.on = i ∨ (ms.getD e.on 0).testBit i = true)
  | [], m, h => .inl h
  | e :: es, m, h => by
    rcases mask_bit ms i es _ h with h | ⟨x, hx, h⟩
    · simp only at h
      cases hb : Region.binds .any e with
      | false => rw [hb] at h; exact .inl h
      | true =>
        rw [hb] at h
        simp only [cond_true, Nat.testBit_or, Bool.or_eq_true, Nat.one_shiftLeft, Nat.testBit_two_pow, decide_eq_true_eq] at h
        rcases h with (h | h) | h
        · exact .inl h
        · exact .inr ⟨e, by simp, hb, .inl h⟩
        · exact .inr ⟨e, by simp, hb, .inr h⟩
    · exact .inr ⟨x, List.mem_cons_of_mem _ hx, h⟩
theorem stat_of {ops : Array Oper} {ms : List Nat} (h : statB ops ms = true) : Stat ops ms := by
  unfold statB at h
  simp only [Bool.and_eq_true, List.all_eq_true, List.mem_range] at h
  obtain ⟨h1, h2⟩ := h
  have g1 : ∀ i o, ops[i]? = some o → ms.getD i 0 = maskOf ms o ∧ ∀ e ∈ o.after.toList, Region.binds .any e = true → e.on < i := fun i o ho => by
    have := h1 i (Array.getElem?_eq_some_iff.1 ho).1
    rw [ho] at this
    simp only [Option.all_some, Bool.and_eq_true, List.all_eq_true] at this
    refine ⟨Nat.eq_of_beq_eq_true this.1, fun e he hb => ?_⟩
    have := this.2 e he
    rw [hb] at this
    simpa using this
  refine ⟨fun listed j => ?_, fun i j oi oj hi hj hne ho => ?_, fun i j oi oj d hi hj hne hn hd => ?_⟩
  · induction j using Nat.strongRecOn with
    | _ j ih =>
      intro oj i hc hj hall hb
      obtain ⟨e1, e2⟩ := g1 j oj hj
      rw [e1] at hb
      rcases mask_bit ms i _ _ hb with h | ⟨e, he, hbd, h⟩
      · simp at h
      · have hle := hall e (by simpa using he) hbd
        rcases h with h | h
        · rw [← h]; exact hle
        · have hlt := e2 e he hbd
          have hsz : e.on < ops.size := by have := (Array.getElem?_eq_some_iff.1 hj).1; omega
          exact ih e.on hlt _ i hc (Array.getElem?_eq_getElem hsz) (fun x hx hb => hc e.on _ (Array.getElem?_eq_getElem hsz) hle x hx hb) h
  · have := h2 i (Array.getElem?_eq_some_iff.1 hi).1 j (Array.getElem?_eq_some_iff.1 hj).1
    simp only [hi, hj, Option.all_some, Bool.or_eq_true, beq_iff_eq, hne, false_or, Bool.and_eq_true, ho, Bool.false_eq_true] at this
    exact this.1
  · have := h2 i (Array.getElem?_eq_some_iff.1 hi).1 j (Array.getElem?_eq_some_iff.1 hj).1
    simp only [hi, hj, Option.all_some, Bool.or_eq_true, beq_iff_eq, hne, false_or, Bool.and_eq_true, hn, hd, Bool.not_true, Bool.false_eq_true, Option.isNone_some, bne_iff_ne] at this
    exact this.2
def Hp.purge (H : Hp) (l0 t0 : Nat) : Hp := fun l t => (H l t).purge l0 t0
def St.purge1 (σ : St) (d : Nat) : St := { σ with T := purgeT σ.lev d σ.T, H := σ.H.purge σ.lev d }
def St.purges (σ : St) : List Nat → St
  | [] => σ
  | d :: r => (σ.purge1 d).purges r
mutual
theorem AVal.purge_comm (l t l' t' : Nat) : ∀ x : AVal, (x.purge l t).purge l' t' = (x.purge l' t').purge l t
  | .ptr a b c => by
    simp only [AVal.purge]
    cases h1 : (a == l && b == t) <;> cases h2 : (a == l' && b == t') <;> simp [AVal.purge, h1, h2]
  | .ref a b c => by
    simp only [AVal.purge]
    cases h1 : (a == l && b == t) <;> cases h2 : (a == l' && b == t') <;> simp [AVal.purge, h1, h2]
  | .elt a b c q r => by
    simp only [AVal.purge]
    cases h1 : (a == l && b == t) <;> cases h2 : (a == l' && b == t') <;> simp [AVal.purge, h1, h2]
  | .tup xs => by simp only [AVal.purge]; rw [AVal.purgeL_comm l t l' t' xs]
  | .clo f xs => by simp only [AVal.purge]; rw [AVal.purgeL_comm l t l' t' xs]
  | AVal.any => rfl
  | AVal.nils => rfl
  | AVal.d _ => rfl
  | AVal.cptr _ => rfl
theorem AVal.purgeL_comm (l t l' t' : Nat) : ∀ xs : List AVal, AVal.purgeL l' t' (AVal.purgeL l t xs) = AVal.purgeL l t (AVal.purgeL l' t' xs)
  | [] => rfl
  | x :: xs => by simp only [AVal.purgeL]; rw [AVal.purge_comm l t l' t' x, AVal.purgeL_comm l t l' t' xs]
end
mutual
theorem AVal.purge_idem (l t : Nat) : ∀ x : AVal, (x.purge l t).purge l t = x.purge l t
  | .ptr a b c => by simp only [AVal.purge]; cases h1 : (a == l && b == t) <;> simp [AVal.purge, h1]
  | .ref a b c => by simp only [AVal.purge]; cases h1 : (a == l && b == t) <;> simp [AVal.purge, h1]
  | .elt a b c q r => by simp only [AVal.purge]; cases h1 : (a == l && b == t) <;> simp [AVal.purge, h1]
  | .tup xs => by simp only [AVal.purge]; rw [AVal.purgeL_idem l t xs]
  | .clo f xs => by simp only [AVal.purge]; rw [AVal.purgeL_idem l t xs]
  | AVal.any => rfl
  | AVal.nils => rfl
  | AVal.d _ => rfl
  | AVal.cptr _ => rfl
theorem AVal.purgeL_idem (l t : Nat) : ∀ xs : List AVal, AVal.purgeL l t (AVal.purgeL l t xs) = AVal.purgeL l t xs
  | [] => rfl
  | x :: xs => by simp only [AVal.purgeL]; rw [AVal.purge_idem l t x, AVal.purgeL_idem l t xs]
end
theorem AObj.purge_comm (l t l' t' : Nat) (x : AObj) : (x.purge l t).purge l' t' = (x.purge l' t').purge l t := by cases x <;> simp only [AObj.purge]; rw [AVal.purgeL_comm]
theorem AObj.purge_idem (l t : Nat) (x : AObj) : (x.purge l t).purge l t = x.purge l t := by cases x <;> simp only [AObj.purge]; rw [AVal.purgeL_idem]
theorem Robj.purge0 {bad : Nat → Prop} {K : Kt} {w : World} {l t l0 t0 : Nat} {o : AObj} (h : Robj bad K w l t o) : Robj bad K w l t (o.purge l0 t0) := by
  cases o with
  | box cs =>
    obtain ⟨hn, b, vs, ty, z, h1, h2, h3, h4, h5⟩ := h
    refine ⟨hn, b, vs, ty, z, h1, h2, by rw [AVal.purgeL_eq]; simpa using h3, h4, fun j c x hc hx => ?_⟩
    rw [AVal.purgeL_eq, List.getElem?_map] at hc
    obtain ⟨c0, hc0, rfl⟩ := Option.map_eq_some_iff.1 hc
    exact (h5 j c0 x hc0 hx).purge Keeps.rfl' (fun _ _ _ _ _ hz => hz)
  | _ => exact h
theorem HRel.purge {E : Env} {lev : Nat} {H : Hp} {w : World} {K : Kt} (h : HRel E lev H w K) (l0 t0 : Nat) : HRel E lev (H.purge l0 t0) w K ∧ (∀ b, badOf E.S0 K (H.purge l0 t0) b ↔ badOf E.S0 K H b) := by
  have ho : ∀ l t b, ((H.purge l0 t0) l t).own K l t b ↔ (H l t).own K l t b := fun l t b => AObj.own_purge
  have hb : ∀ b, badOf E.S0 K (H.purge l0 t0) b ↔ badOf E.S0 K H b := fun b => or_congr Iff.rfl (exists_congr fun l => exists_congr fun t => ho l t b)
  have hk : Keeps (badOf E.S0 K H) w (badOf E.S0 K (H.purge l0 t0)) w := fun b _ hn => ⟨fun e => hn ((hb b).1 e), rfl⟩
  refine ⟨⟨fun l t => ?_, fun l t l' t' b h1 h2 => h.inj l t l' t' b ((ho ..).1 h1) ((ho ..).1 h2), fun l t b hb => h.sep l t b ((ho ..).1 hb), h.low, h.ext, fun l t b hb => h.new l t b ((ho ..).1 hb), fun l t hl => ?_, fun l t => ?_, h.kp.trans hk h.ext.size, h.k0⟩, hb⟩
  · exact ((h.ob l t).mono hk (fun _ _ _ _ hz => hz) rfl (fun _ _ => rfl)).purge0
  · show (H l t).purge l0 t0 = .dead
    rw [h.top l t hl]; rfl
  · exact AObj.bel_purge _ (h.hb l t)
theorem Rel.purge1 {E : Env} {σ : St} {a : Act} {w : World} {K : Kt} (h : Rel E σ a w K) (d : Nat) : Rel E (σ.purge1 d) a w K := by
  obtain ⟨h1, h2⟩ := h.hr.purge σ.lev d
  have hk : Keeps (badOf E.S0 K σ.H) w (badOf E.S0 K (σ.H.purge σ.lev d)) w := fun b _ hn => ⟨fun e => hn ((h2 b).1 e), rfl⟩
  refine ⟨h.size, h.defs, fun t => ?_, fun t => ?_, h1⟩
  · simp only [St.purge1, lk_purgeT]
    exact (h.tm t).purge hk (fun _ _ _ _ _ hz => hz)
  · simp only [St.purge1, lk_purgeT]
    exact AVal.bel_purge _ (h.tb t)
theorem Rel.purges {E : Env} {a : Act} {w : World} {K : Kt} : ∀ {ds : List Nat} {σ : St}, Rel E σ a w K → Rel E (σ.purges ds) a w K
  | [], _, h => h
  | d :: r, _, h => Rel.purges (ds := r) (h.purge1 d)
theorem purges_lev : ∀ (ds : List Nat) (σ : St), (σ.purges ds).lev = σ.lev
  | [], _ => rfl
  | d :: r, σ => purges_lev r (σ.purge1 d)
theorem Fre.purge1 {l t d : Nat} {σ : St} (h : Fre l t σ) : Fre l t (σ.purge1 d) := by
  refine ⟨fun j => ?_, fun l' t' => ?_⟩
  · simp only [St.purge1, lk_purgeT]
    rw [AVal.purge_comm, h.1]
  · show ((σ.H l' t').purge σ.lev d).purge l t = _
    rw [AObj.purge_comm, h.2]; rfl
theorem Fre.purges {l t : Nat} : ∀ {ds : List Nat} {σ : St}, Fre l t σ → Fre l t (σ.purges ds)
  | [], _, h => h
  | d :: r, _, h => Fre.purges (ds := r) h.purge1
theorem purges_fre {d : Nat} : ∀ {ds : List Nat} {σ : St}, d ∈ ds → Fre σ.lev d (σ.purges ds)
  | [], _, h => by cases h
  | x :: r, σ, h => by
    rcases List.mem_cons.1 h with rfl | h
    · refine Fre.purges (ds := r) ⟨fun j => ?_, fun l' t' => ?_⟩
      · simp only [St.purge1, lk_purgeT, AVal.purge_idem]
      · exact AObj.purge_idem _ _ _
    · exact purges_fre (ds := r) (σ := σ.purge1 x) h
/-- A region whose order is drawn: it is walked in one order. -/
theorem awp_draw {P : Program} {Q : Exit → St → Prop} {σ : St} {id : Nat} {ops : Array Oper} (ds : List Nat) (hm : P.follows .mixedOrders = true) (hB : drawB ops ds = true)
    (h : ∀ (O : OrdF) (Al : Nat → Bool), O = ordB (masks ops) → Al = aloneB ops (masks ops) → dOpsL P ops O Al (Q .normal) ops.toList 0 [] (σ.purges ds)) : awp P (.region id ops true) Q σ := by
  intro E a w K hR
  simp only [drawB, Bool.and_eq_true] at hB
  obtain ⟨⟨hs, hn⟩, hl⟩ := hB
  have hS := stat_of hs
  refine wp_region_any hm ?_
  have hR' : Rel E (σ.purges ds) a { w with drawn := w.drawn + 1 } K := by
    exact hR.purges.world (Ch.drew w)
  refine dAny_sound (P := P) (ms := masks ops) (N := Q .normal) (fun σ' a' w' K' h1 h2 => ⟨σ', K', h1, h2⟩) _ _ [] _ a _ K ?_ hR'
  have := dAny_lex (P := P) (N := Q .normal) hS ops.toList 0 (Array.replicate ops.size false) [] (σ.purges ds) (fun j => by simp) (fun j hj => by omega) (by simpa using hl) ?_ ?_ (h _ _ rfl rfl)
  · simpa using this
  · intro j oj hj hlj
    rw [Array.getD_eq_getD_getElem?, Array.getElem?_replicate] at hlj
    split at hlj <;> simp at hlj
  · intro j oj d hj _ hnk hd
    rw [purges_lev]
    refine purges_fre ?_
    unfold newIn at hn
    rw [List.all_eq_true] at hn
    have := hn oj (List.mem_of_getElem? (by rw [Array.getElem?_toList]; exact hj))
    rw [hnk, hd] at this
    simpa using this
end Go.Fw
/- What simp works off: drawn regions. -/
set_option autoImplicit false
namespace Go.Fw
noncomputable def dK (P : Program) (ops : Array Oper) (O : OrdF) (Al : Nat → Bool) (N : St → Prop) (l : List Oper) (k : Nat) (rs : List Rec) (c : Option Cl) (σ' : St) : Prop := OkR O k c rs ∧ dOpsL P ops O Al N l (k + 1) (addR k c rs) σ'
noncomputable def dGo (P : Program) (ops : Array Oper) (O : OrdF) (Al : Nat → Bool) (N : St → Prop) (o : Oper) (l : List Oper) (k : Nat) (rs : List Rec) (σ : St) (b : Bool) : Prop :=
  aIf b (dC P (Al k = true) (dK P ops O Al N l k rs) o σ (callD σ o.op)) (okDst σ.n o.dst = true ∧ dK P ops O Al N l k rs (some .pure) (σ.put o.dst (.tup [])))
theorem dGo_split {P : Program} {ops : Array Oper} {O : OrdF} {Al : Nat → Bool} {N : St → Prop} {o : Oper} {l : List Oper} {k : Nat} {rs : List Rec} {σ : St} {b : Bool} (h : b = true → dGo P ops O Al N o l k rs σ true) (g : b = false → dGo P ops O Al N o l k rs σ false) : dGo P ops O Al N o l k rs σ b := by
  cases b
  · exact g rfl
  · exact h rfl
theorem dGo_splitN {P : Program} {ops : Array Oper} {O : OrdF} {Al : Nat → Bool} {N : St → Prop} {o : Oper} {l : List Oper} {k : Nat} {rs : List Rec} {σ : St} {b : Bool} (h : b = true → dGo P ops O Al N o l k rs σ false) (g : b = false → dGo P ops O Al N o l k rs σ true) : dGo P ops O Al N o l k rs σ (!b) := by
  cases b
  · exact g rfl
  · exact h rfl
section
variable (P : Program) (ops : Array Oper) (O : OrdF) (Al : Nat → Bool) (N : St → Prop) (σ : St) (k : Nat) (rs : List Rec) (A : Prop) (K : Option Cl → St → Prop) (dst : Option Tmp)
@[go_sem] theorem dOpsL_nil : dOpsL P ops O Al N [] k rs σ = N σ := rfl
@[go_sem] theorem dOpsL_cons (o : Oper) (l : List Oper) : dOpsL P ops O Al N (o :: l) k rs σ = aG (dGo P ops O Al N o l k rs σ) (gdOf ops σ o) := rfl
@[go_sem] theorem dGo_true (o : Oper) (l : List Oper) : dGo P ops O Al N o l k rs σ true = dC P (Al k = true) (dK P ops O Al N l k rs) o σ (callD σ o.op) := aIf_true _ _
@[go_sem] theorem dGo_false (o : Oper) (l : List Oper) : dGo P ops O Al N o l k rs σ false = (okDst σ.n o.dst = true ∧ dK P ops O Al N l k rs (some .pure) (σ.put o.dst (.tup []))) := aIf_false _ _
@[go_sem] theorem dC_none (o : Oper) : dC P A K o σ none = dS A K (cls P σ o.op) (stepOp P σ o) := rfl
@[go_sem] theorem dC_some (o : Oper) (f : FuncId) (args : List AVal) : dC P A K o σ (some (f, args)) = (okDst σ.n o.dst = true ∧ DCall P A K σ o.dst f args) := rfl
@[go_sem] theorem dS_none (c : Option Cl) : dS A K c none = False := by cases c <;> rfl
@[go_sem] theorem dS_alone : dS A K none (some σ) = (A ∧ K none σ) := rfl
@[go_sem] theorem dS_some (c : Cl) : dS A K (some c) (some σ) = K (some c) σ := rfl
@[go_sem] theorem dK_app (l : List Oper) (c : Option Cl) : dK P ops O Al N l k rs c σ = (OkR O k c rs ∧ dOpsL P ops O Al N l (k + 1) (addR k c rs) σ) := rfl
@[go_sem] theorem OkR_pure : OkR O k (some .pure) rs = True := rfl
@[go_sem] theorem OkR_new : OkR O k (some .new) rs = True := rfl
@[go_sem] theorem OkR_none : OkR O k none rs = True := rfl
@[go_sem] theorem OkR_mem (l t : Nat) (w : Bool) : OkR O k (some (.mem l t w)) rs = (recB O k l t w rs = true) := rfl
@[go_sem] theorem addR_pure : addR k (some .pure) rs = rs := rfl
@[go_sem] theorem addR_new : addR k (some .new) rs = rs := rfl
@[go_sem] theorem addR_none : addR k none rs = rs := rfl
@[go_sem] theorem addR_mem (l t : Nat) (w : Bool) : addR k (some (.mem l t w)) rs = (k, l, t, w) :: rs := rfl
@[go_sem] theorem recB_nil (l t : Nat) (w : Bool) : recB O k l t w [] = true := rfl
@[go_sem] theorem recB_cons (l t : Nat) (w : Bool) (j l' t' : Nat) (w' : Bool) : recB O k l t w ((j, l', t', w') :: rs) = ((bif (l == l') && (t == t') && (w || w') then O k j else true) && recB O k l t w rs) := by simp only [recB, nbeq]
@[go_sem] theorem cls_move (x : Operand) : cls P σ (.move x) = some .pure := rfl
@[go_sem] theorem cls_assign (x : Operand) : cls P σ (.assign x) = some (bif isNilS x then .new else .pure) := rfl
@[go_sem] theorem cls_pick (c x y : Operand) : cls P σ (.pick c x y) = some .pure := rfl
@[go_sem] theorem cls_nilCheck (x : Operand) : cls P σ (.nilCheck x) = some .pure := rfl
@[go_sem] theorem cls_binOp (op : BinOp) (t : TypeId) (x y : Operand) (u : TypeId) : cls P σ (.binOp op t x y u) = some .pure := rfl
@[go_sem] theorem cls_unOp (op : UnOp) (t : TypeId) (x : Operand) : cls P σ (.unOp op t x) = some .pure := rfl
@[go_sem] theorem cls_fieldAddr (s : TypeId) (x : Operand) (f : Nat) : cls P σ (.fieldAddr s x f) = some .pure := rfl
@[go_sem] theorem cls_field (s : TypeId) (x : Operand) (f : Nat) : cls P σ (.field s x f) = some .pure := rfl
@[go_sem] theorem cls_extract (x : Operand) (i : Nat) : cls P σ (.extract x i) = some .pure := rfl
@[go_sem] theorem cls_index (t : TypeId) (x y : Operand) : cls P σ (.index t x y) = some .pure := rfl
@[go_sem] theorem cls_makeFunc (f : Fn) (a b : Array Operand) : cls P σ (.makeFunc f a b) = some .pure := rfl
@[go_sem] theorem cls_alloc (t : TypeId) : cls P σ (.alloc t) = some .new := rfl
@[go_sem] theorem cls_build (t : TypeId) (ps : Array (Nat × Operand)) : cls P σ (.build t ps) = bif allD (ps.toList.map fun p => evO σ p.2) then some .pure else none := by
  have : opVals σ (.build t ps) = ps.toList.map fun p => evO σ p.2 := by simp [opVals, Op.operands, Function.comp_def]
  simp only [cls, cls1, this]
@[go_sem] theorem cls_buildSlice (t : TypeId) (n : Nat) (ps : Array (Nat × Operand)) : cls P σ (.buildSlice t n ps) = bif allD (ps.toList.map fun p => evO σ p.2) then some .new else none := by
  have : opVals σ (.buildSlice t n ps) = ps.toList.map fun p => evO σ p.2 := by simp [opVals, Op.operands, Function.comp_def]
  simp only [cls, cls1, this]
def clBox (P : Program) (ty : TypeId) (l t : Nat) : AObj → Option Cl
  | .box cs => bif (aggOf P ty).any (fun g => !g) || allD cs then some (.mem l t false) else none
  | _ => none
@[go_sem] theorem cls_load (t : TypeId) (x : Operand) : cls P σ (.load t x) = clLoad P σ.H t (evO σ x) := rfl
@[go_sem] theorem clLoad_ptr' (H : Hp) (ty : TypeId) (l t off : Nat) : clLoad P H ty (.ptr l t off) = clBox P ty l t (H l t) := by simp only [clLoad, clBox] <;> cases H l t <;> rfl
@[go_sem] theorem clBox_box (ty : TypeId) (l t : Nat) (cs : List AVal) : clBox P ty l t (.box cs) = bif (aggOf P ty).any (fun g => !g) || allD cs then some (.mem l t false) else none := rfl
@[go_sem] theorem clLoad_elt (H : Hp) (ty : TypeId) (l t k i j : Nat) : clLoad P H ty (.elt l t k i j) = some (.mem l t false) := rfl
@[go_sem] theorem clLoad_cptr (H : Hp) (ty : TypeId) (cs : List DVal) : clLoad P H ty (.cptr cs) = some .pure := rfl
@[go_sem] theorem cls_store (t : TypeId) (x y : Operand) : cls P σ (.store t x y) = clStore (evO σ x) (evO σ y) := rfl
@[go_sem] theorem clStore_ptr (l t off : Nat) (y : AVal) : clStore (.ptr l t off) y = some (.mem l t true) := rfl
@[go_sem] theorem clStore_elt (l t k i j : Nat) (y : AVal) : clStore (.elt l t k i j) y = bif isD y then some (.mem l t true) else none := rfl
@[go_sem] theorem cls_indexAddr (t : TypeId) (x y : Operand) : cls P σ (.indexAddr t x y) = clIdx (evO σ x) := rfl
@[go_sem] theorem clIdx_ref (l t n : Nat) : clIdx (.ref l t n) = some (.mem l t false) := rfl
@[go_sem] theorem clIdx_d (x : DVal) : clIdx (.d x) = some .pure := rfl
@[go_sem] theorem cls_slice (t : TypeId) (x : Operand) (lo hi : Option Operand) : cls P σ (.slice t x lo hi none) = bif isStr P t || isD (evO σ x) then some .pure else none := by
  have : opVals σ (.slice t x lo hi none) = evO σ x :: (lo.toArray ++ hi.toArray).toList.map (evO σ) := by simp [opVals, Op.operands]
  simp only [cls, cls1, this, fc, clSlice]
@[go_sem] theorem cls_len (a : Array Operand) (t : Array TypeId) : cls P σ (.call { callee := .builtin .len, args := a, argTypes := t }) = some .pure := rfl
@[go_sem] theorem cls_min (a : Array Operand) (t : Array TypeId) : cls P σ (.call { callee := .builtin .min, args := a, argTypes := t }) = some .pure := rfl
@[go_sem] theorem cls_max (a : Array Operand) (t : Array TypeId) : cls P σ (.call { callee := .builtin .max, args := a, argTypes := t }) = some .pure := rfl
@[go_sem] theorem cls_append (a : Array Operand) (t : Array TypeId) : cls P σ (.call { callee := .builtin .append, args := a, argTypes := t }) = none := rfl
@[go_sem] theorem cls_makeSlice (t : TypeId) (a b : Operand) : cls P σ (.makeSlice t a b) = none := rfl
@[go_sem] theorem cls_box (t : TypeId) (a : Operand) : cls P σ (.box t a) = none := rfl
@[go_sem] theorem cls_convert (s t : TypeId) (a : Operand) : cls P σ (.convert s t a) = none := rfl
@[go_sem] theorem isD_d (x : DVal) : isD (.d x) = true := rfl
@[go_sem] theorem isD_nils : isD .nils = true := rfl
@[go_sem] theorem isD_ref (l t n : Nat) : isD (.ref l t n) = false := rfl
@[go_sem] theorem isD_ptr (l t n : Nat) : isD (.ptr l t n) = false := rfl
@[go_sem] theorem isD_cptr (cs : List DVal) : isD (.cptr cs) = false := rfl
@[go_sem] theorem datum_d (x : DVal) : datum (.d x) = x := rfl
@[go_sem] theorem datum_nils : datum .nils = .list [] := rfl
@[go_sem] theorem allD_nil : allD [] = true := rfl
@[go_sem] theorem allD_cons (x : AVal) (r : List AVal) : allD (x :: r) = (isD x && allD r) := rfl
@[go_sem] theorem allD_mapd (xs : List DVal) : allD (xs.map .d) = true := by
  induction xs with
  | nil => rfl
  | cons x r ih => simp [allD, isD, ih]
@[go_sem] theorem purges_nil : σ.purges [] = σ := rfl
@[go_sem] theorem purges_cons (n lev : Nat) (T : List (Nat × AVal)) (H : Hp) (d : Nat) (r : List Nat) : St.purges ⟨n, lev, T, H⟩ (d :: r) = St.purges ⟨n, lev, purgeT lev d T, H.purge lev d⟩ r := rfl
@[go_sem] theorem Hp.purge_app (H : Hp) (a b l t : Nat) : (H.purge a b) l t = (H l t).purge a b := rfl
end
def newC : Option Tmp → Bool → List Nat → List Nat
  | some d, true, r => d :: r
  | _, _, r => r
def newL : List Oper → List Nat
  | [] => []
  | o :: l => newC o.dst (newK o.op) (newL l)
theorem awp_draw' {P : Program} {Q : Exit → St → Prop} {σ : St} {id : Nat} {ops : Array Oper} (hm : P.follows .mixedOrders = true) (hB : drawB ops (newL ops.toList) = true)
    (h : ∀ (O : OrdF) (Al : Nat → Bool), O = ordB (masks ops) → Al = aloneB ops (masks ops) → dOpsL P ops O Al (Q .normal) ops.toList 0 [] (σ.purges (newL ops.toList))) : awp P (.region id ops true) Q σ := awp_draw _ hm hB h
@[go_sem] theorem newL_nil : newL [] = [] := rfl
@[go_sem] theorem newL_cons (o : Oper) (l : List Oper) : newL (o :: l) = newC o.dst (newK o.op) (newL l) := rfl
@[go_sem] theorem newC_t (d : Nat) (r : List Nat) : newC (some d) true r = d :: r := rfl
@[go_sem] theorem newC_f (x : Option Tmp) (r : List Nat) : newC x false r = r := by cases x <;> rfl
@[go_sem] theorem newK_assign (x : Operand) : newK (.assign x) = isNilS x := rfl
@[go_sem] theorem newK_alloc (t : TypeId) : newK (.alloc t) = true := rfl
@[go_sem] theorem newK_buildSlice (t : TypeId) (n : Nat) (ps : Array (Nat × Operand)) : newK (.buildSlice t n ps) = true := rfl
@[go_sem] theorem newK_move (x : Operand) : newK (.move x) = false := rfl
@[go_sem] theorem newK_pick (c x y : Operand) : newK (.pick c x y) = false := rfl
@[go_sem] theorem newK_nilCheck (x : Operand) : newK (.nilCheck x) = false := rfl
@[go_sem] theorem newK_binOp (op : BinOp) (t : TypeId) (x y : Operand) (u : TypeId) : newK (.binOp op t x y u) = false := rfl
@[go_sem] theorem newK_unOp (op : UnOp) (t : TypeId) (x : Operand) : newK (.unOp op t x) = false := rfl
@[go_sem] theorem newK_fieldAddr (s : TypeId) (x : Operand) (f : Nat) : newK (.fieldAddr s x f) = false := rfl
@[go_sem] theorem newK_field (s : TypeId) (x : Operand) (f : Nat) : newK (.field s x f) = false := rfl
@[go_sem] theorem newK_extract (x : Operand) (i : Nat) : newK (.extract x i) = false := rfl
@[go_sem] theorem newK_index (t : TypeId) (x y : Operand) : newK (.index t x y) = false := rfl
@[go_sem] theorem newK_makeFunc (f : Fn) (a b : Array Operand) : newK (.makeFunc f a b) = false := rfl
@[go_sem] theorem newK_build (t : TypeId) (ps : Array (Nat × Operand)) : newK (.build t ps) = false := rfl
@[go_sem] theorem newK_load (t : TypeId) (x : Operand) : newK (.load t x) = false := rfl
@[go_sem] theorem newK_store (t : TypeId) (x y : Operand) : newK (.store t x y) = false := rfl
@[go_sem] theorem newK_indexAddr (t : TypeId) (x y : Operand) : newK (.indexAddr t x y) = false := rfl
@[go_sem] theorem newK_slice (t : TypeId) (x : Operand) (lo hi mx : Option Operand) : newK (.slice t x lo hi mx) = false := rfl
@[go_sem] theorem newK_call (c : Call) : newK (.call c) = false := rfl
@[go_sem] theorem newK_box (t : TypeId) (a : Operand) : newK (.box t a) = false := rfl
@[go_sem] theorem newK_convert (s t : TypeId) (a : Operand) : newK (.convert s t a) = false := rfl
@[go_sem] theorem newK_makeSlice (t : TypeId) (a b : Operand) : newK (.makeSlice t a b) = false := rfl
/-! ### Loops' heads -/
def lkO : List (Nat × AObj) → Nat → AObj
  | [], _ => .dead
  | (x, o) :: r, t => bif x == t then o else lkO r t
def objs (H : Hp) (lev : Nat) : List Nat → List (Nat × AObj)
  | [] => []
  | t :: r => (t, H lev t) :: objs H lev r
/-- Objects of one level, told by a list. -/
def hpL (lev : Nat) (os : List (Nat × AObj)) (H : Hp) : Hp := fun l t => bif l == lev then lkO os t else H l t
theorem lkO_objs (H : Hp) (lev : Nat) : ∀ (ls : List Nat) (t : Nat), lkO (objs H lev ls) t = bif inL ls t then H lev t else .dead
  | [], _ => rfl
  | x :: r, t => by
    simp only [objs, lkO, inL, nbeq]
    cases h : (x == t) with
    | true => have e : x = t := by simpa using h
              subst e; rfl
    | false => simpa using lkO_objs H lev r t
section
variable (H : Hp) (lev : Nat) (os : List (Nat × AObj))
@[go_sem] theorem keep_hpL (ls : List Nat) : H.keep lev ls = hpL lev (objs H lev ls) H := by
  funext l t
  simp only [Hp.keep, hpL, lkO_objs]
  cases h : (l == lev) with
  | true => have e : l = lev := by simpa using h
            subst e; rfl
  | false => rfl
@[go_sem] theorem hpL_app (l t : Nat) : (hpL lev os H) l t = bif l == lev then lkO os t else H l t := rfl
@[go_sem] theorem hpL_alloc (t : Nat) (o : AObj) : hpL lev os (H.alloc lev t o) = hpL lev os H := by
  funext l s
  simp only [hpL, Hp.alloc]
  cases l == lev <;> rfl
@[go_sem] theorem hpL_set (t : Nat) (o : AObj) : hpL lev os (H.set lev t o) = hpL lev os H := by
  funext l s
  simp only [hpL, Hp.set]
  cases l == lev <;> rfl
@[go_sem] theorem hpL_hpL (os' : List (Nat × AObj)) : hpL lev os (hpL lev os' H) = hpL lev os H := by
  funext l s
  simp only [hpL]
  cases l == lev <;> rfl
@[go_sem] theorem keep_mk (n : Nat) (T : List (Nat × AVal)) (ts ls : List Nat) : St.keep ⟨n, lev, T, H⟩ ts ls = ⟨n, lev, keepT T ts, hpL lev (objs H lev ls) H⟩ := by rw [← keep_hpL]; rfl
end
attribute [go_sem] lkO objs keepT inL
@[go_sem] theorem nat_nn (k : Nat) : (0 ≤ (k : Int)) = True := by simp
/-- The rest of the code, bundled: no hypothesis for simp. -/
structure Nx (P : Program) (y : Code) (Q : Exit → St → Prop) where
  f : St → Prop
  h : ∀ σ, awp P y Q σ → f σ
theorem awp_seq_n {P : Program} {Q : Exit → St → Prop} {σ : St} {x y : Code} (h : ∀ N : Nx P y Q, awp P x (AThen N.f Q) σ) : awp P (.seq x y) Q σ := awp_seq_k fun N hN => h ⟨N, hN⟩
theorem goN {P : Program} {y : Code} {Q : Exit → St → Prop} {σ : St} (N : Nx P y Q) (h : awp P y Q σ) : N.f σ := N.h σ h
/-- The rest of the code. -/
theorem goK {P : Program} {y : Code} {Q : Exit → St → Prop} {N : St → Prop} {σ : St} (hN : ∀ σ, awp P y Q σ → N σ) (h : awp P y Q σ) : N σ := hN σ h
/-- A call of data. -/
theorem dcall {P : Program} {A : Prop} {K : Option Cl → St → Prop} {σ : St} {dst : Option Tmp} {f : FuncId} {args : List AVal} {ds : List DVal} {r : AVal} (hc : PCalls P f ds r) (ha : allD args = true) (hd : args.map datum = ds) (hb : r.bel 0 = true)
    (h : K (some .pure) (σ.put dst r)) : DCall P A K σ dst f args := .inl ⟨r, ha, hb, by rw [hd]; exact hc, h⟩
theorem dcall_alone {P : Program} {A : Prop} {K : Option Cl → St → Prop} {σ : St} {dst : Option Tmp} {f : FuncId} {args : List AVal} (hA : A) (h : CallOk P σ f args dst (K none)) : DCall P A K σ dst f args := .inr ⟨hA, h⟩
end Go.Fw
/- Values that a row's arguments read as, told as data, with the bounds that the form's reach gives. -/
set_option autoImplicit false
namespace Go.Fw
open Go.RowKit Go.Proofs.Ytpgnhajindbhlaa
section
variable {α β : Type} {P : Program}
abbrev RdR (W : World) (ds : List DVal) (cs : List Value) : Prop := P2 (Rd (fun _ => False) W) ds cs ∧ ∀ (j : Nat) (u : Value), cs[j]? = some u → u.oneCell' = true
/-- Cells of type t that read as data are those of some x that κ writes, within the bounds B. -/
def OpensAt (P : Program) (n : Nat) (t : TypeId) (κ : α → DVal) (B : α → Prop) (Z : α → Nat) : Prop :=
  ∀ (H : Type) (enc : TypeId × Value → H) (W : World) (base : Nat) (cs : List Value) (d : DataW H) (ps : List MemPlace),
    DataW.trod enc P W base (fun _ => true) true n t cs = some (d, ps) → (∀ m ∈ d.weights P t, m ≤ 140737488351232) → ∃ x : α, RdR W (κ x).cells cs ∧ B x ∧ Z x ≤ Rows.uptoBulk d
def Opens (P : Program) (t : TypeId) (κ : α → DVal) (B : α → Prop) (Z : α → Nat) : Prop := ∀ n, OpensAt P n t κ B Z
def FieldsAt {H : Type} (enc : TypeId × Value → H) (P : Program) (W : World) (base n : Nat) : List TypeId → List Value → List (DataW H) → Prop
  | [], cs, ds => cs = [] ∧ ds = []
  | t :: ts, cs, ds => ∃ c0 c1 d r ps, cs = c0 ++ c1 ∧ ds = d :: r ∧ DataW.trod enc P W base (fun _ => true) true n t c0 = some (d, ps) ∧ FieldsAt enc P W base n ts c1 r
/-- A row of fields. -/
def OpensRow (P : Program) (n : Nat) (ts : List TypeId) (κ : α → List DVal) (B : α → Prop) (Z : α → Nat) : Prop :=
  ∀ (H : Type) (enc : TypeId × Value → H) (W : World) (base : Nat) (cs : List Value) (ds : List (DataW H)),
    FieldsAt enc P W base n ts cs ds → (∀ m ∈ DataW.weightsEach P ts ds, m ≤ 140737488351232) → ∃ x : α, RdR W (κ x) cs ∧ B x ∧ Z x ≤ Rows.uptoBulkAll ds
def dI (k : IntKind) (z : Int) : DVal := .v (.int k z)
def dS' (s : ByteArray) : DVal := .v (.string s)
def dB (b : Bool) : DVal := .v (.bool b)
def dL (κ : α → DVal) (xs : List α) : DVal := .list (xs.map κ)
def BInt (k : IntKind) (x : Int) : Prop := (Lit.int k x).wf = true
def BStr (s : ByteArray) : Prop := s.size ≤ 140737488351232
def BBool (_ : Bool) : Prop := True
def BPair (p : α → Prop) (q : β → Prop) (x : α × β) : Prop := p x.1 ∧ q x.2
def BSlice (bytes : Nat) (p : α → Prop) (l : List α) : Prop := l.length * bytes ≤ 140737488351232 ∧ l.length ≤ maxLen ∧ ∀ x ∈ l, p x
def ZInt (_ : Int) : Nat := 1
def ZBool (_ : Bool) : Nat := 1
def ZStr (s : ByteArray) : Nat := s.size + 1
def ZPair (p : α → Nat) (q : β → Nat) (x : α × β) : Nat := p x.1 + q x.2
def ZSlice (p : α → Nat) (l : List α) : Nat := (l.map p).sum + 1
theorem rdr_one {W : World} {d : DVal} {u : Value} (h : Rd (fun _ => False) W d u) (hu : u.oneCell' = true) (hd : d.cells = [d]) : RdR W d.cells [u] := by
  rw [hd]
  refine ⟨⟨rfl, fun j x y hx hy => ?_⟩, fun j y hy => ?_⟩
  · cases j with
    | zero => simp at hx hy; subst hx hy; exact h
    | succ j => simp at hx
  · cases j with
    | zero => simp at hy; subst hy; exact hu
    | succ j => simp at hy
theorem opens_int {t : TypeId} {k : IntKind} (ht : P.underlying t = some (.int k)) : Opens P t (dI k) (BInt k) ZInt := by
  intro n H enc W base cs d ps h _
  obtain ⟨x, rfl, hx, hw⟩ := DataW.trod_int ht h
  obtain ⟨rfl, _⟩ := Prod.mk.inj hx
  exact ⟨x, rdr_one (.v rfl) rfl rfl, hw, by simp [ZInt, Rows.uptoBulk]⟩
theorem opens_bool {t : TypeId} (ht : P.underlying t = some .bool) : Opens P t dB BBool ZBool := by
  intro n H enc W base cs d ps h _
  obtain ⟨x, rfl, hx⟩ := DataW.trod_bool ht h
  obtain ⟨rfl, _⟩ := Prod.mk.inj hx
  exact ⟨x, rdr_one (.v rfl) rfl rfl, trivial, by simp [ZBool, Rows.uptoBulk]⟩
theorem opens_str {t : TypeId} (ht : P.underlying t = some .string) : Opens P t dS' BStr ZStr := by
  intro n H enc W base cs d ps h hw
  obtain ⟨x, rfl, hx, _⟩ := DataW.trod_string ht h
  obtain ⟨rfl, rfl⟩ := Prod.mk.inj hx
  refine ⟨x, rdr_one (.v rfl) rfl rfl, ?_, ?_⟩
  · have := hw x.data.toList.length (by simp [DataW.weights])
    unfold BStr
    simpa using this
  · simp [ZStr, Rows.uptoBulk]
theorem weights_all {H : Type} {e : TypeId} : ∀ {l : List (DataW H)} {d : DataW H}, d ∈ l → ∀ m ∈ d.weights P e, m ∈ DataW.weightsAll P e l
  | x :: r, d, h, m, hm => by
    unfold DataW.weightsAll
    rcases List.mem_cons.1 h with rfl | h
    · exact List.mem_append_left _ hm
    · exact List.mem_append_right _ (weights_all h m hm)
theorem sum_le {H : Type} {Z : α → Nat} : ∀ (xs : List α) (ds : List (DataW H)), xs.length = ds.length → (∀ (i : Nat) (x : α) (d : DataW H), xs[i]? = some x → ds[i]? = some d → Z x ≤ Rows.uptoBulk d) → (xs.map Z).sum ≤ Rows.uptoBulkAll ds
  | [], [], _, _ => by simp
  | x :: xs, d :: ds, hl, h => by
    have h0 := h 0 x d rfl rfl
    have h1 := sum_le xs ds (by simpa using hl) (fun i y e hy he => h (i + 1) y e (by simpa using hy) (by simpa using he))
    simp only [List.map_cons, List.sum_cons, Rows.uptoBulkAll]
    omega
theorem choose_lt' {p : Nat → α → Prop} [Inhabited α] {m : Nat} (h : ∀ i, i < m → ∃ x, p i x) : ∃ f : Nat → α, ∀ i, i < m → p i (f i) := by
  classical
  exact ⟨fun i => if hi : i < m then Classical.choose (h i hi) else default, fun i hi => by simp only [dif_pos hi]; exact Classical.choose_spec (h i hi)⟩
/-- Where a cell of a row of elements lies. -/
theorem flat_at {κ : α → DVal} {sz : Nat} : ∀ (xs : List α), (∀ x ∈ xs, (κ x).cells.length = sz) → ∀ j, j < ((xs.map κ).flatMap DVal.cells).length → ∃ i k x, j = i * sz + k ∧ k < sz ∧ xs[i]? = some x ∧ ((xs.map κ).flatMap DVal.cells)[j]? = (κ x).cells[k]?
  | [], _, j, hj => by simp at hj
  | x :: r, hs, j, hj => by
    have hx := hs x (by simp)
    simp only [List.map_cons, List.flatMap_cons, List.length_append, hx] at hj ⊢
    by_cases h : j < sz
    · exact ⟨0, j, x, by simp, h, rfl, by rw [List.getElem?_append_left (by omega)]⟩
    · obtain ⟨i, k, y, h1, h2, h3, h4⟩ := flat_at r (fun y hy => hs y (List.mem_cons_of_mem _ hy)) (j - sz) (by omega)
      refine ⟨i + 1, k, y, by rw [Nat.succ_mul]; omega, h2, by simpa using h3, ?_⟩
      rw [List.getElem?_append_right (by omega), hx]
      exact h4
theorem opens_slice_at {n : Nat} {t e : TypeId} {κ : α → DVal} {B : α → Prop} {Z : α → Nat} {bytes sz : Nat} (ht : P.underlying t = some (.slice e)) (hb : P.bytesOf e = bytes) (hc : P.cellsOf e = sz) (h0 : 0 < sz) (hk : ∀ x, (κ x).cells.length = sz) (z : α) (h : OpensAt P n e κ B Z) :
    OpensAt P (n + 1) t (dL κ) (BSlice bytes B) (ZSlice Z) := by
  intro H enc W base cs d ps hd hw
  rcases DataW.trod_slice ht hd with ⟨rfl, hx⟩ | ⟨a, len, cap, elems, rest, n', hn, rfl, hx, _, hl, hm, hlen, hel, _, _⟩
  · obtain ⟨rfl, _⟩ := Prod.mk.inj hx
    refine ⟨[], rdr_one Rd.nil rfl rfl, ?_, ?_⟩
    · exact ⟨by simp, by simp, fun x hx => by cases hx⟩
    · simp [ZSlice, Rows.uptoBulk]
  · obtain rfl : n = n' := by omega
    obtain ⟨rfl, _⟩ := Prod.mk.inj hx
    have hwl : (elems.length + rest.length) * bytes ≤ 140737488351232 := by
      have := hw ((elems.length + rest.length) * P.bytesOf e) (by simp [DataW.weights, ht])
      rwa [hb] at this
    have hwe : ∀ x ∈ elems, ∀ m ∈ x.1.weights P e, m ≤ 140737488351232 := fun x hx m hm => hw m (by
      simp only [DataW.weights, ht]
      exact List.mem_cons_of_mem _ (List.mem_append_left _ (weights_all (List.mem_map_of_mem hx) m hm)))
    have hone : ∀ i, i < len → ∃ x : α, ∃ cs, W.cells? base (a.add (i * sz)) sz = some cs ∧ RdR W (κ x).cells cs ∧ B x ∧ ∀ y, elems[i]? = some y → Z x ≤ Rows.uptoBulk y.1 := by
      intro i hi
      have h1 := hel i hi
      rw [hc] at h1
      have hi' : i < elems.length := by omega
      rw [List.getElem?_eq_getElem hi'] at h1
      obtain ⟨cs, h2, h3⟩ := Option.bind_eq_some_iff.1 h1
      obtain ⟨x, h4, h5, h6⟩ := h H enc W base cs _ _ h3 (hwe _ (List.getElem_mem hi'))
      refine ⟨x, cs, h2, h4, h5, fun y hy => ?_⟩
      rw [List.getElem?_eq_getElem hi'] at hy
      obtain rfl := Option.some.inj hy
      exact h6
    haveI : Inhabited α := ⟨z⟩
    obtain ⟨f, hf⟩ := choose_lt' hone
    have hfl : ((List.range len).map f).length = len := by simp
    have hsp : len ≠ 0 → a.spot = none := fun hne => by
      obtain ⟨cs, h2, h4, _⟩ := hf 0 (by omega)
      obtain ⟨_, hcl, hcell⟩ := World.cells?_some h2
      have h5 := hcell 0 (by omega)
      cases hs : a.spot with
      | none => rfl
      | some s =>
        exfalso
        have : W.cell? ((a.add (0 * sz)).add 0) = none := by
          simp only [Nat.zero_mul, Addr.add, if_true]
          unfold World.cell?
          rw [hs]
          split <;> simp
        rw [this] at h5
        have := (List.getElem?_eq_none_iff.1 h5.symm)
        omega
    have hcellat : ∀ j, j < ((((List.range len).map f).map κ).flatMap DVal.cells).length → ∃ u : Value, W.cell? ⟨a.block, a.off + j, none⟩ = some u ∧ u.oneCell' = true ∧ ∀ c, ((((List.range len).map f).map κ).flatMap DVal.cells)[j]? = some c → Rd (fun _ => False) W c u := by
      intro j hj
      obtain ⟨i, k, x, rfl, hk1, hx, hj2⟩ := flat_at _ (fun x _ => hk x) j hj
      have hil : i < len := by
        rcases Nat.lt_or_ge i len with h | h
        · exact h
        · rw [List.getElem?_eq_none (by simpa using h)] at hx
          cases hx
      rw [List.getElem?_map, List.getElem?_range hil] at hx
      obtain rfl : f i = x := by simpa using hx
      obtain ⟨cs, h2, h4, _⟩ := hf i hil
      obtain ⟨_, hcl, hcell⟩ := World.cells?_some h2
      have hkl : k < cs.length := by omega
      have h5 := hcell k (by omega)
      rw [List.getElem?_eq_getElem hkl] at h5
      have had : (a.add (i * sz)).add k = ⟨a.block, a.off + (i * sz + k), none⟩ := by
        have hs := hsp (by omega)
        rw [Addr.add_add]
        unfold Addr.add
        split
        · rename_i e
          cases a
          simp only at hs
          subst hs
          simp [e]
        · rfl
      rw [had] at h5
      refine ⟨cs[k], h5, h4.2 k _ (List.getElem?_eq_getElem hkl), fun c hc => ?_⟩
      rw [hj2] at hc
      exact h4.1.2 k c _ hc (List.getElem?_eq_getElem hkl)
    haveI : Inhabited Value := ⟨.bool false⟩
    obtain ⟨g, hg⟩ := choose_lt' hcellat
    refine ⟨(List.range len).map f, rdr_one ?_ rfl rfl, ?_, ?_⟩
    · have hll : len = (((List.range len).map f).map κ).length := by simp
      have hmain : Rd (fun _ => False) W (.list (((List.range len).map f).map κ)) (.slice (some a) (((List.range len).map f).map κ).length cap) :=
        Rd.list (sz := sz) (b := a.block) (o := a.off) (f := g) (fun x hx => by obtain ⟨y, _, rfl⟩ := List.mem_map.1 hx; exact hk y) (by rw [← hll]; exact hl)
          (fun j hj => ⟨id, (hg j hj).1⟩) (fun j hj => (hg j hj).2.1) (fun j c hc => (hg j (List.getElem?_eq_some_iff.1 hc).1).2.2 c hc) (fun hne => by
          have : len ≠ 0 := fun e => hne (by rw [e]; rfl)
          have hs := hsp this
          cases a
          simp only at hs
          subst hs
          rfl)
      rw [← hll] at hmain
      exact hmain
    · refine ⟨?_, by rw [hfl]; omega, fun x hx => ?_⟩
      · rw [hfl]
        refine Nat.le_trans (Nat.mul_le_mul_right _ ?_) hwl
        omega
      · obtain ⟨i, hi, rfl⟩ := List.mem_map.1 hx
        exact (hf i (List.mem_range.1 hi)).choose_spec.2.2.1
    · have hs : (((List.range len).map f).map Z).sum ≤ Rows.uptoBulkAll (elems.map (·.1)) := by
        refine sum_le _ _ (by simp [hlen]) (fun i x y hx hy => ?_)
        have hil : i < len := by
          rcases Nat.lt_or_ge i len with h | h
          · exact h
          · rw [List.getElem?_eq_none (by simpa using h)] at hx
            cases hx
        rw [List.getElem?_map, List.getElem?_range hil] at hx
        obtain rfl : f i = x := by simpa using hx
        rw [List.getElem?_map] at hy
        obtain ⟨u, hu, rfl⟩ := Option.map_eq_some_iff.1 hy
        obtain ⟨_, _, _, _, h6⟩ := hf i hil
        exact h6 u hu
      unfold ZSlice
      simp only [Rows.uptoBulk]
      omega
theorem opens_zero {t : TypeId} {κ : α → DVal} {B : α → Prop} {Z : α → Nat} : OpensAt P 0 t κ B Z := by
  intro H enc W base cs d ps hd
  simp [DataW.trod] at hd
theorem opens_slice {t e : TypeId} {κ : α → DVal} {B : α → Prop} {Z : α → Nat} {bytes sz : Nat} (ht : P.underlying t = some (.slice e)) (hb : P.bytesOf e = bytes) (hc : P.cellsOf e = sz) (h0 : 0 < sz) (hk : ∀ x, (κ x).cells.length = sz) (z : α) (h : Opens P e κ B Z) : Opens P t (dL κ) (BSlice bytes B) (ZSlice Z)
  | 0 => opens_zero
  | n + 1 => opens_slice_at ht hb hc h0 hk z (h n)
/-- The fields lie one behind the other. -/
def laidB (P : Program) : Nat → List Field → Bool
  | _, [] => true
  | o, f :: fs => f.offset == o && laidB P (o + P.cellsOf f.type) fs
def totalB (P : Program) : Nat → List Field → Nat
  | o, [] => o
  | o, f :: fs => totalB P (o + P.cellsOf f.type) fs
theorem fields_of {H : Type} {enc : TypeId × Value → H} {W : World} {base n : Nat} (cs : List Value) : ∀ (fs : List Field) (o : Nat) (xs : List (DataW H × List MemPlace)), laidB P o fs = true → totalB P o fs = cs.length → xs.length = fs.length →
    (∀ (i : Nat) (f : Field), fs[i]? = some f → DataW.trod enc P W base (fun _ => true) true n f.type ((cs.drop f.offset).take (P.cellsOf f.type)) = xs[i]?) →
    FieldsAt enc P W base n (fs.map (·.type)) (cs.drop o) (xs.map (·.1))
  | [], o, xs, _, ht, hx, _ => by
    obtain rfl : xs = [] := List.length_eq_zero_iff.1 (by simpa using hx)
    exact ⟨List.drop_of_length_le (by simp [totalB] at ht; omega), rfl⟩
  | f :: fs, o, xs, hl, ht, hx, h => by
    match xs, hx with
    | x :: r, hx =>
      simp only [laidB, Bool.and_eq_true, beq_iff_eq] at hl
      obtain ⟨ho, hl⟩ := hl
      have h0 := h 0 f rfl
      rw [ho] at h0
      refine ⟨(cs.drop o).take (P.cellsOf f.type), cs.drop (o + P.cellsOf f.type), x.1, r.map (·.1), x.2, ?_, rfl, by simpa using h0, ?_⟩
      · rw [← List.drop_drop, List.take_append_drop]
      · exact fields_of cs fs _ r hl (by simpa [totalB] using ht) (by simpa using hx) (fun i g hg => by simpa using h (i + 1) g (by simpa using hg))
/-- A struct: f takes it apart, g puts it together. -/
theorem opens_struct {t : TypeId} {fs : Array Field} {ts : List TypeId} {κ : α → List DVal} {κ' : β → DVal} {B : α → Prop} {B' : β → Prop} {Z : α → Nat} {Z' : β → Nat} (g : α → β) (hg : ∀ x, κ' (g x) = .agg (κ x)) (hB : ∀ x, B x → B' (g x)) (hZ : ∀ x, Z' (g x) = Z x + 1)
    (ht : P.underlying t = some (.struct fs)) (hts : fs.toList.map (·.type) = ts) (hl : laidB P 0 fs.toList = true) (htot : totalB P 0 fs.toList = P.cellsOf t) (h : ∀ n, OpensRow P n ts κ B Z) : Opens P t κ' B' Z'
  | 0 => opens_zero
  | n + 1 => by
    intro H enc W base cs d ps hd hw
    obtain ⟨xs, n', hn, hx, hlen, hxs, hf⟩ := DataW.trod_struct ht hd
    obtain rfl : n = n' := by omega
    obtain ⟨rfl, _⟩ := Prod.mk.inj hx
    subst hts
    have hF := fields_of (enc := enc) (W := W) (base := base) (n := n) cs fs.toList 0 xs hl (htot.trans hlen.symm) (by simpa using hxs) (fun i f' hf' => hf i f' (by simpa using hf'))
    obtain ⟨x, h1, h2, h3⟩ := h n H enc W base cs _ hF (fun m hm => hw m (by simp only [DataW.weights, ht]; exact hm))
    refine ⟨g x, ?_, hB x h2, ?_⟩
    · rw [hg]; exact h1
    · rw [hZ]
      simp only [Rows.uptoBulk]
      omega
theorem row_one {n : Nat} {t : TypeId} {κ : α → DVal} {B : α → Prop} {Z : α → Nat} (h : OpensAt P n t κ B Z) : OpensRow P n [t] (fun x => (κ x).cells) B Z := by
  rintro H enc W base cs ds ⟨c0, c1, d, r, ps, rfl, rfl, hd, rfl, rfl⟩ hw
  rw [List.append_nil]
  obtain ⟨x, h1, h2, h3⟩ := h H enc W base c0 d ps hd (fun m hm => hw m (by simp [DataW.weightsEach, hm]))
  exact ⟨x, h1, h2, by simp only [Rows.uptoBulkAll]; omega⟩
theorem rdr_append {W : World} {a b : List DVal} {c d : List Value} (h : RdR W a c) (k : RdR W b d) : RdR W (a ++ b) (c ++ d) := by
  refine ⟨h.1.append k.1, fun j u hu => ?_⟩
  rcases Nat.lt_or_ge j c.length with hj | hj
  · rw [List.getElem?_append_left hj] at hu; exact h.2 j u hu
  · rw [List.getElem?_append_right hj] at hu; exact k.2 _ u hu
theorem row_cons {n : Nat} {t : TypeId} {ts : List TypeId} {κ : α → DVal} {μ : β → List DVal} {B : α → Prop} {C : β → Prop} {Z : α → Nat} {Y : β → Nat} (h : OpensAt P n t κ B Z) (hr : OpensRow P n ts μ C Y) : OpensRow P n (t :: ts) (fun x : α × β => (κ x.1).cells ++ μ x.2) (BPair B C) (ZPair Z Y) := by
  rintro H enc W base cs ds ⟨c0, c1, d, r, ps, rfl, rfl, hd, hF⟩ hw
  obtain ⟨x, h1, h2, h5⟩ := h H enc W base c0 d ps hd (fun m hm => hw m (by simp [DataW.weightsEach, hm]))
  obtain ⟨y, h3, h4, h6⟩ := hr H enc W base c1 r hF (fun m hm => hw m (by simp [DataW.weightsEach, hm]))
  exact ⟨(x, y), rdr_append h1 h3, ⟨h2, h4⟩, by simp only [ZPair, Rows.uptoBulkAll]; omega⟩
/-- A row's argument, opened: its value's cells, and the bounds. -/
theorem opens_arg {H : Type} {enc : TypeId × Value → H} {W : World} {t : TypeId} {κ : α → DVal} {B : α → Prop} {Z : α → Nat} (ho : Opens P t κ B Z) {v : Value} {d : DataW H} {ps : List MemPlace} (h : DataW.Trod enc P W 0 (fun _ => true) true t v d ps)
    {ts : List TypeId} {ds : List (DataW H)} (hsz : (DataW.weightsEach P ts ds).all (· ≤ reachBytes) = true) {j : Nat} (hj : ts[j]? = some t) (hd : ds[j]? = some d) : ∃ x : α, RdR W (κ x).cells v.cells.toList ∧ B x ∧ Z x ≤ Rows.uptoBulk d := by
  obtain ⟨n, hn⟩ := h
  refine ho n H enc W 0 _ d ps hn (fun m hm => ?_)
  have := List.all_eq_true.1 hsz m (DataW.weights_mem_each hj hd m hm)
  exact of_decide_eq_true this
/-- The whole value. -/
theorem rd_agg {W : World} {ds : List DVal} {cs : Array Value} (h : RdR W (DVal.agg ds).cells (Value.agg cs).cells.toList) : Rd (fun _ => False) W (.agg ds) (.agg cs) := by
  have e : (Value.agg cs).cells.toList = cs.toList := rfl
  rw [e] at h
  have := Rd.agg (bad := fun _ => False) (w := W) (cs := ds) (vs := cs.toList) h.1.1 h.2 h.1.2
  simpa using this
theorem rd_one {W : World} {d : DVal} {u : Value} (h : RdR W d.cells u.cells.toList) (hd : d.cells = [d]) (hu : u.cells = #[u]) : Rd (fun _ => False) W d u := by
  rw [hd, hu] at h
  exact h.1.2 0 d u rfl rfl
end
theorem len_str {P : Program} {t : TypeId} (h : P.underlying t = some .string) (ty : TypeId) (cs : Array Bool) (s : ByteArray) : builtinV P .len #[t] ty cs [.string s] = some (.int .i64 s.size) := by
  have : pr P (builtin .len #[t] ty cs ⟨[.string s]⟩) = some (.value (.int .i64 s.size)) := pr_of fun w => by
    simp [builtin, Builtin.len_, goInt, run_underlying h]
  unfold builtinV
  rw [this]; rfl
theorem rdL_nil {W : World} : P2 (Rd (fun _ => False) W) [] [] := ⟨rfl, fun j x y h _ => by simp at h⟩
theorem rdL_cons {W : World} {d : DVal} {u : Value} {ds : List DVal} {us : List Value} (h : Rd (fun _ => False) W d u) (k : P2 (Rd (fun _ => False) W) ds us) : P2 (Rd (fun _ => False) W) (d :: ds) (u :: us) :=
  ⟨by simp [k.1], fun j x y hx hy => by
    cases j with
    | zero => simp at hx hy; subst hx hy; exact h
    | succ j => exact k.2 j x y (by simpa using hx) (by simpa using hy)⟩
/-- A law's function, called with data. -/
theorem pcalls_row {P : Program} {f : FuncId} {ds : List DVal} {b : Bool} (h : PCalls P f ds (.d (.v (.bool b)))) {W : World} {vs : List Value} (hv : P2 (Rd (fun _ => False) W) ds vs) :
    Calls P f ⟨vs⟩ W fun e w' => e = .returned (.bool b) ∧ RowKit.Below W.heap.size W w' := by
  have hbad : ∀ b, badOf (fun _ => False) (fun _ _ _ => none) (fun _ _ => .dead) b → False := fun b hb => by rcases hb with hb | ⟨_, _, hb⟩; exact hb; exact hb.elim
  refine (h.2 (fun _ => False) W (fun _ _ _ => none) vs ?_ ?_ (fun _ _ _ => rfl) (HRel.dead (fun _ h => h.elim))).mono ?_
  · refine ⟨by rw [List.length_map]; exact hv.1, fun j x y hx hy => ?_⟩
    rw [List.getElem?_map] at hx
    obtain ⟨d, hd, rfl⟩ := Option.map_eq_some_iff.1 hx
    exact .d ((hv.2 j d y hd hy).mono fun b _ _ => ⟨hbad b, rfl⟩)
  · rw [AVal.belL_iff]
    intro y hy
    obtain ⟨z, _, rfl⟩ := List.mem_map.1 hy
    rfl
  · rintro e w' ⟨v, r, H', K', rfl, rfl, hh, hdead, hrv, _⟩
    have hdead' : H' = fun _ _ => .dead := by funext l t; exact hdead l t (Nat.zero_le _)
    subst hdead'
    have hch : Ch (fun _ => False) W w' := hh.ext.mono (fun b ⟨_, _, e⟩ => e.elim)
    cases hrv with
    | d hd =>
      cases hd with
      | v _ => exact ⟨rfl, hch.below⟩
end Go.Fw
/- Results handed back as they are: references to the caller's objects; calls of functions with closures. -/
set_option autoImplicit false
namespace Go.Fw
def Hp.cut (lev : Nat) (H : Hp) : Hp := fun l t => bif Nat.blt l lev then H l t else .dead
def frzR (lev : Nat) (σ : St) (x : AVal) : Option (AVal × St) := bif x.bel lev then some (x, σ) else (frzV σ x).map fun p => (.d p.1, p.2)
theorem frzR_ok {E : Env} {lev : Nat} {σ σ' : St} {a : Act} {w : World} {K : Kt} {x y : AVal} (h : Rel E σ a w K) (hf : frzR lev σ x = some (y, σ')) :
    Frz E w K σ σ' ∧ y.bel lev = true ∧ ∀ v, Rv (badOf E.S0 K σ.H) K w x v → Rv (badOf E.S0 K σ'.H) K w y v := by
  unfold frzR at hf
  cases hb : x.bel lev with
  | true =>
    rw [hb] at hf
    simp only [cond_true, Option.some.injEq, Prod.mk.injEq] at hf
    obtain ⟨rfl, rfl⟩ := hf
    exact ⟨Frz.refl _, hb, fun _ h => h⟩
  | false =>
    rw [hb] at hf
    simp only [cond_false] at hf
    obtain ⟨⟨d, σ1⟩, h1, he⟩ := Option.map_eq_some_iff.1 hf
    simp only [Prod.mk.injEq] at he
    obtain ⟨rfl, rfl⟩ := he
    obtain ⟨F, G⟩ := frzV_ok h h1
    exact ⟨F, rfl, fun v hv => .d (G v hv)⟩
def resW (P : Program) (lev : Nat) (σ : St) : List ResultVar → Option (List AVal × St)
  | [] => some ([], σ)
  | .tmp t :: r => (frzR lev σ (lk σ.T t)).bind fun p => (resW P lev p.2 r).map fun q => (p.1 :: q.1, q.2)
  | .cell a ty :: r =>
    match lk σ.T a with
    | .ptr l t off =>
      match σ.H l t with
      | .box cs => (szOf P ty).bind fun n => (aggOf P ty).bind fun g => (ldCells g n σ (cs.drop off)).bind fun y => (frzR lev y.2 y.1).bind fun p => (resW P lev p.2 r).map fun q => (p.1 :: q.1, q.2)
      | _ => none
    | _ => none
theorem resW_ok {P : Program} {E : Env} {lev : Nat} {a : Act} {w : World} {K : Kt} : ∀ {rs : List ResultVar} {σ σ' : St} {ds : List AVal}, Rel E σ a w K → resW P lev σ rs = some (ds, σ') →
    Frz E w K σ σ' ∧ AVal.belL lev ds = true ∧ ∃ vs, (rs.mapM (resOne a.tmps)).run P w = .ok vs w ∧ P2 (Rv (badOf E.S0 K σ'.H) K w) ds vs
  | [], σ, σ', ds, hR, h => by
    simp only [resW, Option.some.injEq, Prod.mk.injEq] at h
    obtain ⟨rfl, rfl⟩ := h
    exact ⟨Frz.refl _, rfl, [], rfl, rfl, by simp⟩
  | .tmp t :: r, σ, σ', ds, hR, h => by
    simp only [resW] at h
    obtain ⟨⟨y, σ1⟩, h1, h⟩ := Option.bind_eq_some_iff.1 h
    obtain ⟨⟨ys, σ2⟩, h2, he⟩ := Option.map_eq_some_iff.1 h
    simp only [Prod.mk.injEq] at he
    obtain ⟨rfl, rfl⟩ := he
    obtain ⟨F1, B1, G1⟩ := frzR_ok hR h1
    obtain ⟨F2, B2, vs, hrun, hp⟩ := resW_ok (F1.rel a hR) h2
    refine ⟨F1.trans F2, by simp only [AVal.belL, B1, B2, Bool.and_self], a.tmps.getD t undef :: vs, ?_, ?_⟩
    · simp [List.mapM_cons, resOne, hrun]
    · refine ⟨by simp [hp.1], fun j c x hc hx => ?_⟩
      cases j with
      | zero =>
        simp only [List.getElem?_cons_zero, Option.some.injEq] at hc hx
        subst hc hx
        exact (G1 _ (hR.tm t)).mono F2.keeps (fun _ _ _ _ hz => hz)
      | succ j => exact hp.2 j c x (by simpa using hc) (by simpa using hx)
  | .cell ad ty :: r, σ, σ', ds, hR, h => by
    simp only [resW] at h
    have hx := hR.tm ad
    generalize hv : a.tmps.getD ad undef = v at hx
    generalize lk σ.T ad = q at hx h
    cases hx with
    | ptr hk =>
      rename_i l t off b cap sz
      simp only at h
      cases hO : σ.H l t with
      | box cs =>
        rw [hO] at h
        simp only at h
        obtain ⟨n, hn, h⟩ := Option.bind_eq_some_iff.1 h
        obtain ⟨g, hg, h⟩ := Option.bind_eq_some_iff.1 h
        obtain ⟨⟨y, σ1⟩, h1, h⟩ := Option.bind_eq_some_iff.1 h
        obtain ⟨⟨d, σ2⟩, h2, h⟩ := Option.bind_eq_some_iff.1 h
        obtain ⟨⟨ys, σ3⟩, h3, he⟩ := Option.map_eq_some_iff.1 h
        simp only [Prod.mk.injEq] at he
        obtain ⟨rfl, rfl⟩ := he
        obtain ⟨F1, v, hrun1, hrv⟩ := ldBox_ok hR hk hO hn hg h1
        have hR1 := F1.rel a hR
        obtain ⟨F2, B2, G2⟩ := frzR_ok hR1 h2
        have hR2 := F2.rel a hR1
        obtain ⟨F3, B3, vs, hrun, hp⟩ := resW_ok hR2 h3
        refine ⟨(F1.trans F2).trans F3, by simp only [AVal.belL, B2, B3, Bool.and_self], v :: vs, ?_, ?_⟩
        · simp [List.mapM_cons, resOne, hv, asAddr, hrun1, hrun]
        · refine ⟨by simp [hp.1], fun j c x hc hx => ?_⟩
          cases j with
          | zero =>
            simp only [List.getElem?_cons_zero, Option.some.injEq] at hc hx
            subst hc hx
            exact (G2 _ hrv).mono F3.keeps (fun _ _ _ _ hz => hz)
          | succ j => exact hp.2 j c x (by simpa using hc) (by simpa using hx)
      | _ => rw [hO] at h; cases h
    | _ => cases h
def retW : List AVal → AVal
  | [x] => x
  | xs => .tup xs
def aResW (lev : Nat) (Q : AVal → Hp → Prop) : Option (List AVal × St) → Prop
  | some p => Q (retW p.1) (p.2.H.cut lev)
  | none => False
def EndsW (P : Program) (fn : Func) (lev : Nat) (Q : AVal → Hp → Prop) : Exit → St → Prop
  | .normal, σ => σ.lev = lev ∧ aResW lev Q (resW P lev σ fn.results.toList)
  | .ret, σ => σ.lev = lev ∧ aResW lev Q (resW P lev σ fn.results.toList)
  | _, _ => False
theorem acalls_w {P : Program} {f : FuncId} {fn : Func} {c : Code} {args : List AVal} {lev : Nat} {H : Hp} {Q : AVal → Hp → Prop} (hf : P.funcs[f]? = some fn) (hb : fn.body = some c) (hn : hasBody P f = true) (hl : args.length ≤ fn.ntmps)
    (h : (∀ l t, lev ≤ l → H l t = .dead) → AVal.belL lev args = true → awp P c (EndsW P fn lev Q) (entry fn.ntmps lev args H)) : ACalls P f args lev H Q := by
  refine ⟨hn, fun S0 w K vs hp hbel hdead hH => ?_⟩
  have hvl : vs.length = args.length := hp.1
  have hR : Rel ⟨S0, ownsIn K H, badOf S0 K H, K, w⟩ (entry fn.ntmps lev args H) { tmps := (⟨vs⟩ : Array Value) ++ Array.replicate (fn.ntmps - (⟨vs⟩ : Array Value).size) undef, defers := [] } w K := by
    refine ⟨?_, rfl, fun t => ?_, fun t => ?_, hH⟩
    · simp only [entry, Array.size_append, Array.size_replicate]
      have : (⟨vs⟩ : Array Value).size = vs.length := rfl
      omega
    · simp only [entry, lk_argT, Nat.zero_le, if_true, Nat.sub_zero]
      cases ha : args[t]? with
      | none => exact .any
      | some x =>
        simp only [Option.getD_some]
        have hlt : t < vs.length := by rw [hvl]; exact (List.getElem?_eq_some_iff.1 ha).1
        have e : ((⟨vs⟩ : Array Value) ++ Array.replicate (fn.ntmps - (⟨vs⟩ : Array Value).size) undef).getD t undef = vs[t] := by
          rw [Array.getD_eq_getD_getElem?, Array.getElem?_append_left (by simpa using hlt)]
          simp [hlt]
        rw [e]
        exact hp.2 t x _ ha (List.getElem?_eq_getElem hlt)
    · simp only [entry, lk_argT, Nat.zero_le, if_true, Nat.sub_zero]
      cases ha : args[t]? with
      | none => rfl
      | some x => exact AVal.bel_mono (Nat.le_succ _) _ ((AVal.belL_iff _ _).1 hbel x (List.mem_of_getElem? ha))
  refine calls_of_wp hf hb (wp_mono (h hdead hbel _ _ w K hR) ?_)
  rintro e a' w' ⟨σ', K', hq, hR'⟩
  have key : (σ'.lev = lev ∧ aResW lev Q (resW P lev σ' fn.results.toList)) →
      a'.defers = [] ∧ ∃ v, (results fn a'.tmps).run P w' = .ok v w' ∧ ∃ v' r H' K', Ending.returned v = .returned v' ∧ Q r H' ∧ HRel ⟨S0, ownsIn K H, badOf S0 K H, K, w⟩ lev H' w' K' ∧ (∀ l t, lev ≤ l → H' l t = .dead) ∧ Rv (badOf S0 K' H') K' w' r v' ∧ r.bel lev = true := by
    rintro ⟨hlev, hres⟩
    refine ⟨hR'.defs, ?_⟩
    cases hr : resW P lev σ' fn.results.toList with
    | none => rw [hr] at hres; exact hres.elim
    | some p =>
    obtain ⟨ds, σ''⟩ := p
    rw [hr] at hres
    have hQ : Q (retW ds) (σ''.H.cut lev) := hres
    obtain ⟨F, B, vs', hrun, hp'⟩ := resW_ok hR' hr
    have hR2 := F.rel a' hR'
    obtain ⟨hd1, hd2⟩ := hR2.hr.drop (H' := σ''.H.cut lev) (fun l t => by
      unfold Hp.cut
      cases Nat.blt l lev
      · exact .inr rfl
      · exact .inl rfl)
    have hlev2 : σ''.lev = lev := F.lev.trans hlev
    rw [hlev2] at hd1
    have hrunA : (results fn a'.tmps).run P w' = .ok (if h : vs'.length = 1 then vs'[0] else .tuple ⟨vs'⟩) w' := by
      have e : results fn a'.tmps = (do
        let vs ← fn.results.mapM (resOne a'.tmps)
        pure (if h : vs.size = 1 then vs[0] else .tuple vs)) := rfl
      rw [e, Array.mapM_eq_mapM_toList]
      simp [hrun]
    have hmn : ∀ {x : AVal} {u : Value}, Rv (badOf S0 K' σ''.H) K' w' x u → Rv (badOf S0 K' (σ''.H.cut lev)) K' w' x u := fun hx => hx.mono hd2 (fun _ _ _ _ hz => hz)
    refine ⟨_, hrunA, _, retW ds, _, K', rfl, hQ, hd1, fun l t hl => ?_, ?_, ?_⟩
    · have : Nat.blt l lev = false := by
        cases hh : Nat.blt l lev
        · rfl
        · rw [Nat.blt_eq] at hh; omega
      simp [Hp.cut, this]
    · match ds, vs', hp' with
      | [], [], _ =>
        exact .tup (xs := []) (vs := []) rfl (by simp)
      | [d], [u], hp' =>
        simp only [List.length_singleton, dif_pos, retW]
        exact hmn (hp'.2 0 d u rfl rfl)
      | d1 :: d2 :: r, u1 :: u2 :: r2, hp' =>
        rw [dif_neg (by simp)]
        simp only [retW]
        exact .tup (by simpa using hp'.1) (fun j c x hc hx => hmn (hp'.2 j c x hc hx))
      | [], _ :: _, hp' => have := hp'.1; simp at this
      | [_], [], hp' => have := hp'.1; simp at this
      | [_], _ :: _ :: _, hp' => have := hp'.1; simp at this
      | _ :: _ :: _, [], hp' => have := hp'.1; simp at this
      | _ :: _ :: _, [_], hp' => have := hp'.1; simp at this
    · match ds, B with
      | [], _ => rfl
      | [d], B => simpa [AVal.belL, retW] using B
      | d1 :: d2 :: r, B => exact B
  cases e with
  | normal => exact key hq
  | ret => exact key hq
  | _ => exact hq.elim
section
variable (P : Program) (lev : Nat) (σ : St) (H : Hp)
@[go_sem] theorem EndsW_ret (fn : Func) (Q : AVal → Hp → Prop) : EndsW P fn lev Q .ret σ = (σ.lev = lev ∧ aResW lev Q (resW P lev σ fn.results.toList)) := rfl
@[go_sem] theorem EndsW_normal (fn : Func) (Q : AVal → Hp → Prop) : EndsW P fn lev Q .normal σ = (σ.lev = lev ∧ aResW lev Q (resW P lev σ fn.results.toList)) := rfl
@[go_sem] theorem aResW_some (Q : AVal → Hp → Prop) (p : List AVal × St) : aResW lev Q (some p) = Q (retW p.1) (p.2.H.cut lev) := rfl
@[go_sem] theorem retW_1 (x : AVal) : retW [x] = x := rfl
@[go_sem] theorem retW_0 : retW [] = .tup [] := rfl
@[go_sem] theorem retW_2 (x y : AVal) (r : List AVal) : retW (x :: y :: r) = .tup (x :: y :: r) := rfl
@[go_sem] theorem resW_nil : resW P lev σ [] = some ([], σ) := by simp only [resW]
@[go_sem] theorem resW_tmp (t : Nat) (r : List ResultVar) : resW P lev σ (.tmp t :: r) = (frzR lev σ (lk σ.T t)).bind fun p => (resW P lev p.2 r).map fun q => (p.1 :: q.1, q.2) := by simp only [resW]
@[go_sem] theorem frzR_d (x : DVal) : frzR lev σ (.d x) = some (.d x, σ) := rfl
@[go_sem] theorem frzR_nils : frzR lev σ .nils = some (.nils, σ) := rfl
def frzRr (lev : Nat) (σ : St) (l t n : Nat) (b : Bool) : Option (AVal × St) := bif b then some (.ref l t n, σ) else (frzV σ (.ref l t n)).map fun p => (.d p.1, p.2)
@[go_sem] theorem frzR_ref (l t n : Nat) : frzR lev σ (.ref l t n) = frzRr lev σ l t n (decide (l < lev)) := by
  have e : Nat.blt l lev = decide (l < lev) := by
    rw [Bool.eq_iff_iff, Nat.blt_eq, decide_eq_true_eq]
  simp only [frzR, AVal.bel, e, frzRr]
@[go_sem] theorem frzRr_true (l t n : Nat) : frzRr lev σ l t n true = some (.ref l t n, σ) := rfl
@[go_sem] theorem frzRr_false (l t n : Nat) : frzRr lev σ l t n false = (frzV σ (.ref l t n)).map fun p => (.d p.1, p.2) := rfl
theorem cut_eq {H' : Hp} (hd : ∀ l t, lev ≤ l → H l t = .dead) (h : ∀ l t, l < lev → H' l t = H l t) : H'.cut lev = H := by
  funext l t
  unfold Hp.cut
  cases hb : Nat.blt l lev with
  | true => rw [cond_true]; exact h l t (by rwa [Nat.blt_eq] at hb)
  | false =>
    rw [cond_false]
    refine (hd l t ?_).symm
    rcases Nat.lt_or_ge l lev with h' | h'
    · rw [← Nat.blt_eq, hb] at h'; cases h'
    · exact h'
theorem cut_dead (hd : ∀ l t, lev ≤ l → H l t = .dead) : H.cut lev = H := cut_eq lev H hd fun _ _ _ => rfl
theorem hpL_dead (hd : ∀ l t, lev ≤ l → H l t = .dead) : hpL lev [] H = H := by
  funext l t
  unfold hpL
  cases hb : l == lev with
  | true => rw [cond_true, hd l t (by simp at hb; omega)]; rfl
  | false => rfl
@[go_sem] theorem cut_alloc (t : Nat) (o : AObj) : (H.alloc lev t o).cut lev = H.cut lev := by
  funext l t'
  unfold Hp.cut Hp.alloc
  cases hb : Nat.blt l lev with
  | true =>
    rw [Nat.blt_eq] at hb
    have : (l == lev) = false := by simp; omega
    rw [this]; rfl
  | false => rfl
@[go_sem] theorem cut_set (t : Nat) (o : AObj) : (H.set lev t o).cut lev = H.cut lev := by
  funext l t'
  unfold Hp.cut Hp.set
  cases hb : Nat.blt l lev with
  | true =>
    rw [Nat.blt_eq] at hb
    have : (l == lev) = false := by simp; omega
    rw [this]; rfl
  | false => rfl
@[go_sem] theorem cut_hpL (os : List (Nat × AObj)) : (hpL lev os H).cut lev = H.cut lev := by
  funext l t'
  unfold Hp.cut hpL
  cases hb : Nat.blt l lev with
  | true =>
    rw [Nat.blt_eq] at hb
    have : (l == lev) = false := by simp; omega
    rw [this]; rfl
  | false => rfl
def fRf (σ : St) (sz : Nat) (xs : List DVal) : AVal → Prop
  | .ref l k n => l = 0 ∧ n = xs.length ∧ σ.H l k = .arr sz xs
  | _ => False
theorem fRes_eq (sz : Nat) (xs : List DVal) (t : Nat) : fRes σ sz xs [.tmp t] = fRf σ sz xs (lk σ.T t) := by
  unfold fRes fRf
  apply propext
  constructor
  · rintro ⟨k, h1, h2⟩
    rw [h1]
    exact ⟨rfl, rfl, h2⟩
  · intro h
    split at h
    · rename_i l k n hl
      obtain ⟨rfl, rfl, h3⟩ := h
      exact ⟨k, hl, h3⟩
    · exact h.elim
@[go_sem] theorem fRes_tmp (sz : Nat) (xs : List DVal) (t : Nat) : fRes σ sz xs [.tmp t] = fRf σ sz xs (lk σ.T t) := fRes_eq σ sz xs t
@[go_sem] theorem fRf_ref (sz : Nat) (xs : List DVal) (l k n : Nat) : fRf σ sz xs (.ref l k n) = (l = 0 ∧ n = xs.length ∧ σ.H l k = .arr sz xs) := rfl
@[go_sem] theorem FEnds_ret (fn : Func) (sz : Nat) (xs : List DVal) : FEnds fn sz xs .ret σ = (σ.lev = 0 ∧ fRes σ sz xs fn.results.toList) := rfl
@[go_sem] theorem FEnds_normal (fn : Func) (sz : Nat) (xs : List DVal) : FEnds fn sz xs .normal σ = (σ.lev = 0 ∧ fRes σ sz xs fn.results.toList) := rfl
theorem dead_alloc {m : Nat} {l0 t : Nat} {o : AObj} (hl : l0 < m) (hd : ∀ l t, m ≤ l → H l t = .dead) : ∀ l t', m ≤ l → (H.alloc l0 t o) l t' = .dead := fun l t' h => by
  have : (l == l0) = false := by simp; omega
  simp [Hp.alloc, this, hd l t' h]
end
end Go.Fw
/- Ways brought together again; loops told by what changes. -/
set_option autoImplicit false
namespace Go.Fw
def headId : Code → Option Nat
  | .seq x _ => headId x
  | .region id _ _ => some id
  | .block _ c => headId c
  | _ => none
section
variable {P : Program} {Q : Exit → St → Prop} {σ : St}
/-- A cell of a box: from one's own array to data. -/
theorem awp_frzAt {c : Code} (n t j : Nat) {cs : List AVal} {x : AVal} {y : DVal} {σ1 : St} (_ : headId c = some n) (hB : σ.H σ.lev t = .box cs) (hj : cs[j]? = some x) (_ : ∃ l s k, x = .ref l s k) (hf : frzV σ x = some (y, σ1)) (hB1 : σ1.H σ.lev t = .box cs)
    (h : awp P c Q { σ1 with H := σ1.H.set σ.lev t (.box (cs.set j (.d y))) }) : awp P c Q σ := by
  intro E a w K hR
  obtain ⟨F, G⟩ := frzV_ok hR hf
  have hR1 := F.rel a hR
  have hlev := F.lev
  have hob := hR.hr.ob σ.lev t
  rw [hB] at hob
  obtain ⟨hn, b, vs, ty, z, h1, h2, h3, h4, h5⟩ := hob
  have hob1 := hR1.hr.ob σ.lev t
  rw [hB1] at hob1
  obtain ⟨_, b1, vs1, ty1, z1, h11, h21, _, _, h51⟩ := hob1
  rw [h1] at h11
  simp only [Option.some.injEq, Prod.mk.injEq, Addr.mk.injEq] at h11
  obtain ⟨⟨rfl, _⟩, _⟩ := h11
  rw [h2] at h21
  simp only [Option.some.injEq, Obj.cells.injEq, Array.mk.injEq] at h21
  obtain ⟨rfl, _⟩ := h21
  have hown : ∀ b', (AObj.box (cs.set j (.d y))).own K σ.lev t b' → (σ1.H σ.lev t).own K σ.lev t b' ∨ w.heap.size ≤ b' := fun b' hb => .inl (by rw [hB1]; exact hb)
  have hkp := Keeps.write (o' := .box (cs.set j (.d y))) hR1.hr (Ch.refl _ w) (fun _ _ _ => rfl) hown
  have hr' : HRel E σ1.lev (σ1.H.set σ.lev t (.box (cs.set j (.d y)))) w K := by
    refine hR1.hr.write (Ch.refl _ w) (fun _ _ _ _ hz => hz) (fun _ _ _ => rfl) hown ⟨hn, b, vs, ty, z, h1, h2, by simpa using h3, h4, fun i c' x' hc hx => ?_⟩ ?_ (by omega)
    · rw [List.getElem?_set] at hc
      by_cases e : j = i
      · subst e
        rw [if_pos rfl] at hc
        split at hc
        · simp only [Option.some.injEq] at hc
          subst hc
          exact .d ((G _ (h5 j x x' hj hx)).mono hkp)
        · cases hc
      · rw [if_neg e] at hc
        exact (h51 i c' x' hc hx).mono hkp (fun _ _ _ _ hz => hz)
    · have hb := hR1.hr.hb σ.lev t
      rw [hB1] at hb
      simp only [AObj.bel] at hb ⊢
      rw [AVal.belL_iff] at hb ⊢
      intro y' hy'
      rcases List.mem_or_eq_of_mem_set hy' with hy' | rfl
      · exact hb y' hy'
      · rfl
  exact h E a w K ⟨hR1.size, hR1.defs, fun t' => (hR1.tm t').mono hkp (fun _ _ _ _ hz => hz), hR1.tb, hr'⟩
theorem goN_at {y : Code} (n : Nat) (ts ls : List Nat) (N : Nx P y Q) (_ : headId y = some n) (h : awp P y Q (σ.keep ts ls)) : N.f σ := N.h σ (awp_keep ts ls h)
theorem awp_condT {c : Operand} {x y : Code} {b : Bool} (hc : boolOf (evO σ c) = some b) (hb : b = true) (h : awp P x Q σ) : awp P (.cond c x y) Q σ := awp_cond hc (fun _ => h) (fun e => by rw [hb] at e; cases e)
theorem awp_condF {c : Operand} {x y : Code} {b : Bool} (hc : boolOf (evO σ c) = some b) (hb : b = false) (h : awp P y Q σ) : awp P (.cond c x y) Q σ := awp_cond hc (fun e => by rw [hb] at e; cases e) (fun _ => h)
def Mrg (a b : St) (R : Prop) : Prop := a = b ∧ R
@[congr] theorem Mrg_congr {a a' b : St} {R : Prop} (h : a = a') : Mrg a b R = Mrg a' b R := by rw [h]
theorem mrg {a : St} {R : Prop} (h : R) : Mrg a a R := ⟨rfl, h⟩
def Fct (R G : Prop) : Prop := R → G
theorem fct {R G : Prop} (h : R → G) : Fct R G := h
theorem awp_seq_at {x y : Code} (n : Nat) (ts ls : List Nat) (R : Prop) {I : St} (_ : headId y = some n) (h : awp P x (AThen (fun σ' => Mrg (σ'.keep ts ls) I R) Q) σ) (k : Fct R (awp P y Q I)) : awp P (.seq x y) Q σ :=
  awp_seq (awp_mono h fun e σ' hq => by
    cases e with
    | normal => exact awp_keep ts ls (by rw [show σ'.keep ts ls = I from hq.1]; exact k hq.2)
    | _ => exact hq)
theorem St.same (σ : St) : σ = σ := rfl
def updT : List (Nat × AVal) → List (Nat × AVal) → List (Nat × AVal)
  | T, [] => T
  | T, (t, v) :: r => updT (setT T t v) r
def updH (lev : Nat) : Hp → List (Nat × AObj) → Hp
  | H, [] => H
  | H, (t, o) :: r => updH lev (H.set lev t o) r
def St.upd (σ : St) (U : List (Nat × AVal)) (V : List (Nat × AObj)) : St := { σ with T := updT σ.T U, H := updH σ.lev σ.H V }
def setO : List (Nat × AObj) → Nat → AObj → List (Nat × AObj)
  | [], t, o => [(t, o)]
  | (s, p) :: r, t, o => bif s == t then (t, o) :: r else (s, p) :: setO r t o
theorem ne_beq {a b : Nat} (h : ¬ a = b) : (a == b) = false := by simpa using h
theorem lkO_cons (s : Nat) (p : AObj) (r : List (Nat × AObj)) (k : Nat) : lkO ((s, p) :: r) k = bif s == k then p else lkO r k := by
  simp [lkO]
theorem lkO_setO : ∀ (os : List (Nat × AObj)) (t : Nat) (o : AObj) (k : Nat), lkO (setO os t o) k = bif k == t then o else lkO os k
  | [], t, o, k => by
    simp only [setO, lkO_cons]
    by_cases h : k = t
    · subst h; simp
    · rw [ne_beq h, ne_beq (fun e => h e.symm)]
  | (s, p) :: r, t, o, k => by
    have ih := lkO_setO r t o k
    simp only [setO]
    by_cases h : s = t
    · subst h
      simp only [BEq.rfl, cond_true, lkO_cons]
      by_cases h2 : k = s
      · subst h2; simp
      · rw [ne_beq h2, ne_beq (fun e => h2 e.symm)]; rfl
    · rw [ne_beq h, cond_false, lkO_cons, lkO_cons, ih]
      by_cases h2 : s = k
      · subst h2
        rw [ne_beq h]; simp
      · rw [ne_beq h2]; rfl
theorem set_hpL (lev : Nat) (os : List (Nat × AObj)) (H : Hp) (t : Nat) (o : AObj) : (hpL lev os H).set lev t o = hpL lev (setO os t o) H := by
  funext l k
  unfold Hp.set hpL
  cases h : l == lev with
  | true =>
    simp only [Bool.true_and, cond_true]
    rw [lkO_setO]
  | false => simp
@[go_sem] theorem updT_nil (T : List (Nat × AVal)) : updT T [] = T := rfl
@[go_sem] theorem updT_cons (T : List (Nat × AVal)) (t : Nat) (v : AVal) (r : List (Nat × AVal)) : updT T ((t, v) :: r) = updT (setT T t v) r := rfl
@[go_sem] theorem updH_nil (lev : Nat) (H : Hp) : updH lev H [] = H := rfl
@[go_sem] theorem updH_cons (lev : Nat) (os : List (Nat × AObj)) (H : Hp) (t : Nat) (o : AObj) (r : List (Nat × AObj)) : updH lev (hpL lev os H) ((t, o) :: r) = updH lev (hpL lev (setO os t o) H) r := by rw [updH, set_hpL]
@[go_sem] theorem setO_nil (t : Nat) (o : AObj) : setO [] t o = [(t, o)] := rfl
@[go_sem] theorem setO_cons (s : Nat) (p : AObj) (r : List (Nat × AObj)) (t : Nat) (o : AObj) : setO ((s, p) :: r) t o = bif s == t then (t, o) :: r else (s, p) :: setO r t o := rfl
@[go_sem] theorem upd_mk (n lev : Nat) (T : List (Nat × AVal)) (H : Hp) (U : List (Nat × AVal)) (V : List (Nat × AObj)) : St.upd ⟨n, lev, T, H⟩ U V = ⟨n, lev, updT T U, updH lev H V⟩ := rfl
theorem awp_loopU {c : Code} {ι : Type} (ts ls : List Nat) {σ0 : St} (U : ι → List (Nat × AVal)) (V : ι → List (Nat × AObj)) (G : ι → Prop) (μ : ι → Nat) (i0 : ι) (h0 : σ.keep ts ls = σ0) (hU : σ0 = σ0.upd (U i0) (V i0)) (hG : G i0)
    (round : ∀ i, G i → awp P c (AThen (fun σ' => ∃ j, G j ∧ σ'.keep ts ls = σ0.upd (U j) (V j) ∧ μ j < μ i) Q) (σ0.upd (U i) (V i))) : awp P (.loop c) Q σ :=
  awp_loopF ts ls (fun i => σ0.upd (U i) (V i)) G μ i0 hG (h0.trans hU) round
end
end Go.Fw
