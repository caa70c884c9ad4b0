/- Bodies: the rules for code; how a function is entered and left. -/
import Derived.Test.YtpgnhajindbhlaaFwN
set_option autoImplicit false
namespace Go.Fw
/-- From the state σ on, the code c ends as Q says. -/
def awp (P : Program) (c : Code) (Q : Exit → St → Prop) (σ : St) : Prop :=
  ∀ (E : Env) (a : Act) (w : World) (K : Kt), Rel E σ a w K → c.wp P (fun e a' w' => ∃ σ' K', Q e σ' ∧ Rel E σ' a' w' K') a w
section
variable {P : Program} {Q : Exit → St → Prop} {σ : St}
theorem awp_mono {c : Code} {Q' : Exit → St → Prop} (h : awp P c Q σ) (hq : ∀ e σ', Q e σ' → Q' e σ') : awp P c Q' σ :=
  fun E a w K hR => wp_mono (h E a w K hR) fun e a' w' ⟨σ', K', h1, h2⟩ => ⟨σ', K', hq e σ' h1, h2⟩
def AThen (next : St → Prop) (Q : Exit → St → Prop) : Exit → St → Prop
  | .normal, σ => next σ
  | e, σ => Q e σ
theorem awp_skip (h : Q .normal σ) : awp P .skip Q σ := fun _ _ _ K hR => wp_skip ⟨σ, K, h, hR⟩
theorem awp_exit {id : Nat} (h : Q (.exit id) σ) : awp P (.exit id) Q σ := fun _ _ _ K hR => wp_exit ⟨σ, K, h, hR⟩
theorem awp_ret (h : Q .ret σ) : awp P .ret Q σ := fun _ _ _ K hR => wp_ret ⟨σ, K, h, hR⟩
theorem awp_seq {x y : Code} (h : awp P x (AThen (awp P y Q) Q) σ) : awp P (.seq x y) Q σ := by
  intro E a w K hR
  refine wp_seq (wp_mono (h E a w K hR) ?_)
  rintro e a' w' ⟨σ', K', h1, h2⟩
  cases e with
  | normal => exact h1 E a' w' K' h2
  | _ => exact ⟨σ', K', h1, h2⟩
/-- The rest of the code behind a letter. -/
theorem awp_seq_k {x y : Code} (h : ∀ N : St → Prop, (∀ σ, awp P y Q σ → N σ) → awp P x (AThen N Q) σ) : awp P (.seq x y) Q σ := awp_seq (h _ fun _ h => h)
theorem awp_cond {c : Operand} {x y : Code} {b : Bool} (hc : boolOf (evO σ c) = some b) (ht : b = true → awp P x Q σ) (hf : b = false → awp P y Q σ) : awp P (.cond c x y) Q σ := by
  intro E a w K hR
  have e := boolOf_eq hc (hR.ev c)
  cases b with
  | true => exact wp_cond_true e (ht rfl E a w K hR)
  | false => exact wp_cond_false e (hf rfl E a w K hR)
def ABlock (id : Nat) (Q : Exit → St → Prop) : Exit → St → Prop
  | .exit id', σ => if id' = id then Q .normal σ else Q (.exit id') σ
  | e, σ => Q e σ
theorem awp_block {id : Nat} {c : Code} (h : awp P c (ABlock id Q) σ) : awp P (.block id c) Q σ := by
  intro E a w K hR
  refine wp_block (wp_mono (h E a w K hR) ?_)
  rintro e a' w' ⟨σ', K', h1, h2⟩
  cases e with
  | exit id' =>
    simp only [ABlock] at h1
    simp only [Exit.inBlock]
    by_cases e : id' = id
    · rw [if_pos e] at h1 ⊢; exact ⟨σ', K', h1, h2⟩
    · rw [if_neg e] at h1 ⊢; exact ⟨σ', K', h1, h2⟩
  | _ => exact ⟨σ', K', h1, h2⟩
theorem awp_region {id : Nat} {ops : Array Oper} (h : aOps P ops (Q .normal) (List.range ops.size) σ) : awp P (.region id ops false) Q σ := by
  intro E a w K hR
  exact wp_region (aOps_sound (N := Q .normal) (fun σ' a' w' K' h1 h2 => ⟨σ', K', h1, h2⟩) _ σ a w K h hR)
theorem awp_loop {c : Code} (I : St → Prop) (μ : St → Nat) (h0 : I σ) (round : ∀ σ, I σ → awp P c (AThen (fun σ' => I σ' ∧ μ σ' < μ σ) Q) σ) : awp P (.loop c) Q σ := by
  intro E a w K hR b k cs
  have key : ∀ n σ, μ σ = n → I σ → ∀ a w K, Rel E σ a w K →
      ∃ e a' w', (∃ σ' K', Q e σ' ∧ Rel E σ' a' w' K') ∧ Arrives P (lone (b.at a (.code c :: .inLoop c :: k)) cs w) b k cs e a' w' := by
    intro n
    induction n using Nat.strongRecOn with
    | _ n ih =>
      intro σ hn hI a w K hR
      obtain ⟨e, a1, w1, ⟨σ1, K1, hq, hR1⟩, harr⟩ := round σ hI E a w K hR b (.inLoop c :: k) cs
      cases e with
      | normal =>
        obtain ⟨hI1, hlt⟩ := hq
        obtain ⟨e2, a2, w2, hq2, harr2⟩ := ih (μ σ1) (hn ▸ hlt) σ1 rfl hI1 a1 w1 K1 hR1
        exact ⟨e2, a2, w2, hq2, .of_steps (Steps.trans harr (.one step_inLoop)) harr2⟩
      | exit id => exact ⟨_, a1, w1, ⟨σ1, K1, hq, hR1⟩, .pass (x := .inLoop c) rfl (fun _ _ => .inl (by simp)) harr⟩
      | goto l => exact ⟨_, a1, w1, ⟨σ1, K1, hq, hR1⟩, .pass (x := .inLoop c) rfl (fun _ _ => .inl (by simp)) harr⟩
      | ret => exact ⟨_, a1, w1, ⟨σ1, K1, hq, hR1⟩, .pass (x := .inLoop c) rfl (fun _ _ => .inl (by simp)) harr⟩
      | panic ch => exact ⟨_, a1, w1, ⟨σ1, K1, hq, hR1⟩, .pass (x := .inLoop c) rfl (fun _ _ => .inl (by simp)) harr⟩
      | outgrown => exact ⟨_, a1, w1, ⟨σ1, K1, hq, hR1⟩, .pass (x := .inLoop c) rfl (fun _ _ => .inl (by simp)) harr⟩
  obtain ⟨e, a', w', hq, harr⟩ := key _ σ rfl h0 a w K hR
  exact ⟨e, a', w', hq, .of_steps (.one step_loop) harr⟩

/-! ### Forgetting -/
/-- The state with nothing but some temporaries and some objects of its own. -/
def keepT (T : List (Nat × AVal)) : List Nat → List (Nat × AVal)
  | [] => []
  | t :: r => (t, lk T t) :: keepT T r
def inL : List Nat → Nat → Bool
  | [], _ => false
  | x :: r, t => bif Nat.beq x t then true else inL r t
def Hp.keep (H : Hp) (lev : Nat) (ls : List Nat) : Hp := fun l t => bif l == lev then (bif inL ls t then H l t else .dead) else H l t
def St.keep (σ : St) (ts ls : List Nat) : St := { σ with T := keepT σ.T ts, H := σ.H.keep σ.lev ls }
theorem lk_keepT (T : List (Nat × AVal)) : ∀ (ts : List Nat) (t : Nat), lk (keepT T ts) t = .any ∨ lk (keepT T ts) t = lk T t
  | [], t => .inl rfl
  | x :: r, t => by
    simp only [keepT, lk]
    cases h : Nat.beq x t with
    | true => right; rw [beq_eq h]; rfl
    | false => simpa using lk_keepT T r t
/-- Objects dropped. -/
theorem HRel.drop {E : Env} {lev : Nat} {H H' : Hp} {w : World} {K : Kt} (h : HRel E lev H w K) (hd : ∀ l t, H' l t = H l t ∨ H' l t = .dead) : HRel E lev H' w K ∧ Keeps (badOf E.S0 K H) w (badOf E.S0 K H') w := by
  have hown : ∀ l t b, (H' l t).own K l t b → (H l t).own K l t b := fun l t b hb => by
    rcases hd l t with e | e
    · rwa [e] at hb
    · rw [e] at hb; exact hb.elim
  have hk : Keeps (badOf E.S0 K H) w (badOf E.S0 K H') w := fun b hb hn => ⟨fun e => hn (by
    rcases e with e | ⟨l, t, e⟩
    · exact .inl e
    · exact .inr ⟨l, t, hown l t b e⟩), rfl⟩
  refine ⟨⟨fun l t => ?_, fun l t l' t' b h1 h2 => h.inj l t l' t' b (hown _ _ _ h1) (hown _ _ _ h2), fun l t b hb => h.sep l t b (hown _ _ _ hb), h.low, h.ext, fun l t b hb => h.new l t b (hown _ _ _ hb), fun l t hl => ?_, fun l t => ?_, h.kp.trans hk h.ext.size, h.k0⟩, hk⟩
  · rcases hd l t with e | e
    · rw [e]; exact (h.ob l t).mono hk (fun _ _ _ _ hz => hz) rfl (fun _ _ => rfl)
    · rw [e]; trivial
  · rcases hd l t with e | e
    · rw [e]; exact h.top l t hl
    · exact e
  · rcases hd l t with e | e
    · rw [e]; exact h.hb l t
    · rw [e]; rfl
theorem Hp.keep_or (H : Hp) (lev : Nat) (ls : List Nat) (l t : Nat) : H.keep lev ls l t = H l t ∨ H.keep lev ls l t = .dead := by
  unfold Hp.keep
  cases l == lev
  · exact .inl rfl
  · cases inL ls t
    · exact .inr rfl
    · exact .inl rfl
theorem Rel.keep {E : Env} {σ : St} {a : Act} {w : World} {K : Kt} (h : Rel E σ a w K) (ts ls : List Nat) : Rel E (σ.keep ts ls) a w K := by
  obtain ⟨h1, h2⟩ := h.hr.drop (Hp.keep_or σ.H σ.lev ls)
  refine ⟨h.size, h.defs, fun t => ?_, fun t => ?_, h1⟩
  · simp only [St.keep]
    rcases lk_keepT σ.T ts t with e | e
    · rw [e]; exact .any
    · rw [e]; exact (h.tm t).mono h2 (fun _ _ _ _ hz => hz)
  · simp only [St.keep]
    rcases lk_keepT σ.T ts t with e | e
    · rw [e]; rfl
    · rw [e]; exact h.tb t
theorem awp_keep {P : Program} {c : Code} {Q : Exit → St → Prop} {σ : St} (ts ls : List Nat) (h : awp P c Q (σ.keep ts ls)) : awp P c Q σ := fun E a w K hR => h E a w K (hR.keep ts ls)
/-- A loop whose head's states are told by a family. -/
theorem awp_loopF {P : Program} {c : Code} {Q : Exit → St → Prop} {σ : St} {ι : Type} (ts ls : List Nat) (I : ι → St) (G : ι → Prop) (μ : ι → Nat) (i0 : ι) (hG : G i0) (h0 : σ.keep ts ls = I i0)
    (round : ∀ i, G i → awp P c (AThen (fun σ' => ∃ j, G j ∧ σ'.keep ts ls = I j ∧ μ j < μ i) Q) (I i)) : awp P (.loop c) Q σ := by
  intro E a w K hR b k cs
  have key : ∀ n i, μ i = n → G i → ∀ a w K, Rel E (I i) a w K →
      ∃ e a' w', (∃ σ' K', Q e σ' ∧ Rel E σ' a' w' K') ∧ Arrives P (lone (b.at a (.code c :: .inLoop c :: k)) cs w) b k cs e a' w' := by
    intro n
    induction n using Nat.strongRecOn with
    | _ n ih =>
      intro i hn hi a w K hR
      obtain ⟨e, a1, w1, ⟨σ1, K1, hq, hR1⟩, harr⟩ := round i hi E a w K hR b (.inLoop c :: k) cs
      cases e with
      | normal =>
        obtain ⟨j, hj, hs, hlt⟩ := hq
        have hR2 := hR1.keep ts ls
        rw [hs] at hR2
        obtain ⟨e2, a2, w2, hq2, harr2⟩ := ih (μ j) (hn ▸ hlt) j rfl hj a1 w1 K1 hR2
        exact ⟨e2, a2, w2, hq2, .of_steps (Steps.trans harr (.one step_inLoop)) harr2⟩
      | exit id => exact ⟨_, a1, w1, ⟨σ1, K1, hq, hR1⟩, .pass (x := .inLoop c) rfl (fun _ _ => .inl (by simp)) harr⟩
      | goto l => exact ⟨_, a1, w1, ⟨σ1, K1, hq, hR1⟩, .pass (x := .inLoop c) rfl (fun _ _ => .inl (by simp)) harr⟩
      | ret => exact ⟨_, a1, w1, ⟨σ1, K1, hq, hR1⟩, .pass (x := .inLoop c) rfl (fun _ _ => .inl (by simp)) harr⟩
      | panic ch => exact ⟨_, a1, w1, ⟨σ1, K1, hq, hR1⟩, .pass (x := .inLoop c) rfl (fun _ _ => .inl (by simp)) harr⟩
      | outgrown => exact ⟨_, a1, w1, ⟨σ1, K1, hq, hR1⟩, .pass (x := .inLoop c) rfl (fun _ _ => .inl (by simp)) harr⟩
  have hR0 := hR.keep ts ls
  rw [h0] at hR0
  obtain ⟨e, a', w', hq, harr⟩ := key _ i0 rfl hG a w K hR0
  exact ⟨e, a', w', hq, .of_steps (.one step_loop) harr⟩
end

/-! ### Functions -/
theorem ldBox_ok {P : Program} {E : Env} {σ σ1 : St} {a : Act} {w : World} {K : Kt} {l t off b n : Nat} {ty : TypeId} {g : Bool} {cs : List AVal} {y : AVal} {z : Nat × Nat} (hR : Rel E σ a w K) (hk : K l t 0 = some (some ⟨b, 0, none⟩, z)) (hO : σ.H l t = .box cs)
    (hn : szOf P ty = some n) (hg : aggOf P ty = some g) (h1 : ldCells g n σ (cs.drop off) = some (y, σ1)) :
    Frz E w K σ σ1 ∧ ∃ v, (loadVar ty ⟨b, off, none⟩).run P w = .ok v w ∧ Rv (badOf E.S0 K σ1.H) K w y v := by
  have hob := hR.hr.ob l t
  rw [hO] at hob
  obtain ⟨_, b', vs, ty', z', hK, hheap, hl, hone, hrel⟩ := hob
  rw [hk] at hK
  simp only [Option.some.injEq, Prod.mk.injEq, Addr.mk.injEq] at hK
  obtain ⟨⟨rfl, _⟩, _⟩ := hK
  have hp : P2 (Rv (badOf E.S0 K σ.H) K w) (cs.drop off) (vs.drop off) := P2.drop ⟨hl, hrel⟩ off
  have hcell : ∀ (j : Nat) (u : Value), (vs.drop off)[j]? = some u → w.cell? ⟨b, off + j, none⟩ = some u := fun j u hu => by
    rw [List.getElem?_drop] at hu
    simp [World.cell?, hheap, hu]
  have hone' : ∀ (j : Nat) (u : Value), (vs.drop off)[j]? = some u → u.oneCell' = true := fun j u hu => by
    rw [List.getElem?_drop] at hu
    exact hone _ u hu
  cases g with
  | true =>
    simp only [ldCells, cond_true] at h1
    cases hb : Nat.ble n (cs.drop off).length with
    | false => rw [hb] at h1; cases h1
    | true =>
      rw [hb] at h1
      simp only [cond_true] at h1
      obtain ⟨⟨ds, σ2⟩, h2, he⟩ := Option.map_eq_some_iff.1 h1
      simp only [Prod.mk.injEq] at he
      obtain ⟨rfl, rfl⟩ := he
      obtain ⟨hfz, hlen, hrd⟩ := frzL_ok hR h2
      have hle := Nat.le_of_ble_eq_true hb
      have hp2 := hp.take n
      have hrun := run_loadVar (w := w) (b := b) (o := off) (vs := (vs.drop off).take n) hn hg (fun _ => by rw [hp2.1]; simp only [List.length_take]; omega) (fun h => by cases h) (fun j u hu => by
        rw [List.getElem?_take] at hu
        split at hu
        · exact hcell j u hu
        · cases hu)
      refine ⟨hfz, _, hrun, .d (Rd.agg (vs := (vs.drop off).take n) (by rw [hp2.1, hlen]) ?_ ?_)⟩
      · intro j u hu
        rw [List.getElem?_take] at hu
        split at hu
        · exact hone' j u hu
        · cases hu
      · intro j c u hc hu
        have hj : j < ((cs.drop off).take n).length := by rw [← hlen]; exact (List.getElem?_eq_some_iff.1 hc).1
        exact hrd j _ c u (List.getElem?_eq_getElem hj) hc (hp2.2 j _ u (List.getElem?_eq_getElem hj) hu)
  | false =>
    simp only [ldCells, cond_false] at h1
    cases hcs : cs.drop off with
    | nil => rw [hcs] at h1; cases h1
    | cons c r =>
      rw [hcs] at h1 hp
      simp only [List.head?_cons, Option.map_some, Option.some.injEq, Prod.mk.injEq] at h1
      obtain ⟨rfl, rfl⟩ := h1
      cases hvs : vs.drop off with
      | nil => rw [hvs] at hp; have := hp.1; simp at this
      | cons u us =>
        rw [hvs] at hp hcell
        have hrun := run_loadVar (w := w) (b := b) (o := off) (vs := [u]) hn hg (fun h => by cases h) (fun _ => rfl) (fun j z hz => by
          cases j with
          | zero => exact hcell 0 z (by simpa using hz)
          | succ j => simp at hz)
        exact ⟨Frz.refl _, u, hrun, hp.2 0 c u rfl rfl⟩
def resV (P : Program) (σ : St) : List ResultVar → Option (List DVal × St)
  | [] => some ([], σ)
  | .tmp t :: r => (frzV σ (lk σ.T t)).bind fun p => (resV P p.2 r).map fun q => (p.1 :: q.1, q.2)
  | .cell a ty :: r =>
    match lk σ.T a with
    | .ptr l t off =>
      match σ.H l t with
      | .box cs => (szOf P ty).bind fun n => (aggOf P ty).bind fun g => (ldCells g n σ (cs.drop off)).bind fun y => (frzV y.2 y.1).bind fun p => (resV P p.2 r).map fun q => (p.1 :: q.1, q.2)
      | _ => none
    | _ => none
def resOne (tmps : Array Value) : ResultVar → Sem Value
  | .tmp t => pure (tmps.getD t undef)
  | .cell a t => do loadVar t (← asAddr (tmps.getD a undef))
theorem resV_ok {P : Program} {E : Env} {a : Act} {w : World} {K : Kt} : ∀ {rs : List ResultVar} {σ σ' : St} {ds : List DVal}, Rel E σ a w K → resV P σ rs = some (ds, σ') →
    Frz E w K σ σ' ∧ ∃ vs, (rs.mapM (resOne a.tmps)).run P w = .ok vs w ∧ P2 (Rd (badOf E.S0 K σ'.H) w) ds vs
  | [], σ, σ', ds, hR, h => by
    simp only [resV, Option.some.injEq, Prod.mk.injEq] at h
    obtain ⟨rfl, rfl⟩ := h
    exact ⟨Frz.refl _, [], rfl, rfl, by simp⟩
  | .tmp t :: r, σ, σ', ds, hR, h => by
    simp only [resV] at h
    obtain ⟨⟨y, σ1⟩, h1, h⟩ := Option.bind_eq_some_iff.1 h
    obtain ⟨⟨ys, σ2⟩, h2, he⟩ := Option.map_eq_some_iff.1 h
    simp only [Prod.mk.injEq] at he
    obtain ⟨rfl, rfl⟩ := he
    obtain ⟨F1, G1⟩ := frzV_ok hR h1
    obtain ⟨F2, vs, hrun, hp⟩ := resV_ok (F1.rel a hR) h2
    refine ⟨F1.trans F2, a.tmps.getD t undef :: vs, ?_, ?_⟩
    · simp [List.mapM_cons, resOne, hrun]
    · refine ⟨by simp [hp.1], fun j c x hc hx => ?_⟩
      cases j with
      | zero =>
        simp only [List.getElem?_cons_zero, Option.some.injEq] at hc hx
        subst hc hx
        exact (G1 _ (hR.tm t)).mono F2.keeps
      | succ j => exact hp.2 j c x (by simpa using hc) (by simpa using hx)
  | .cell ad ty :: r, σ, σ', ds, hR, h => by
    simp only [resV] at h
    have hx := hR.tm ad
    generalize hv : a.tmps.getD ad undef = v at hx
    generalize lk σ.T ad = q at hx h
    cases hx with
    | ptr hk =>
      rename_i l t off b cap sz
      simp only at h
      cases hO : σ.H l t with
      | box cs =>
        rw [hO] at h
        simp only at h
        obtain ⟨n, hn, h⟩ := Option.bind_eq_some_iff.1 h
        obtain ⟨g, hg, h⟩ := Option.bind_eq_some_iff.1 h
        obtain ⟨⟨y, σ1⟩, h1, h⟩ := Option.bind_eq_some_iff.1 h
        obtain ⟨⟨d, σ2⟩, h2, h⟩ := Option.bind_eq_some_iff.1 h
        obtain ⟨⟨ys, σ3⟩, h3, he⟩ := Option.map_eq_some_iff.1 h
        simp only [Prod.mk.injEq] at he
        obtain ⟨rfl, rfl⟩ := he
        obtain ⟨F1, v, hrun1, hrv⟩ := ldBox_ok hR hk hO hn hg h1
        have hR1 := F1.rel a hR
        obtain ⟨F2, G2⟩ := frzV_ok hR1 h2
        have hR2 := F2.rel a hR1
        obtain ⟨F3, vs, hrun, hp⟩ := resV_ok hR2 h3
        refine ⟨(F1.trans F2).trans F3, v :: vs, ?_, ?_⟩
        · simp [List.mapM_cons, resOne, hv, asAddr, hrun1, hrun]
        · refine ⟨by simp [hp.1], fun j c x hc hx => ?_⟩
          cases j with
          | zero =>
            simp only [List.getElem?_cons_zero, Option.some.injEq] at hc hx
            subst hc hx
            exact (G2 _ hrv).mono F3.keeps
          | succ j => exact hp.2 j c x (by simpa using hc) (by simpa using hx)
      | _ => rw [hO] at h; cases h
    | _ => cases h
def retVal : List DVal → AVal
  | [x] => .d x
  | xs => .tup (xs.map .d)
def argT : Nat → List AVal → List (Nat × AVal)
  | _, [] => []
  | k, x :: r => (k, x) :: argT (k + 1) r
theorem lk_argT : ∀ (xs : List AVal) (k t : Nat), lk (argT k xs) t = if k ≤ t then (xs[t - k]?).getD .any else .any
  | [], k, t => by simp [argT, lk]
  | x :: r, k, t => by
    rw [argT, lk_cons, lk_argT r (k + 1) t]
    by_cases e : k = t
    · subst e; simp
    · rw [if_neg e]
      by_cases e2 : k + 1 ≤ t
      · rw [if_pos e2, if_pos (by omega), show t - k = (t - (k + 1)) + 1 by omega, List.getElem?_cons_succ]
      · rw [if_neg e2, if_neg (by omega)]
def entry (n lev : Nat) (args : List AVal) (H : Hp) : St := { n := n, lev := lev, T := argT 0 args, H := H }
/-- What the end of a body hands back. -/
def aRes (lev : Nat) (Q : AVal → Hp → Prop) : Option (List DVal × St) → Prop
  | some p => Q (retVal p.1) (fun l t => bif Nat.blt l lev then p.2.H l t else .dead)
  | none => False
def Ends (P : Program) (fn : Func) (lev : Nat) (Q : AVal → Hp → Prop) : Exit → St → Prop
  | .normal, σ => σ.lev = lev ∧ aRes lev Q (resV P σ fn.results.toList)
  | .ret, σ => σ.lev = lev ∧ aRes lev Q (resV P σ fn.results.toList)
  | _, _ => False
theorem acalls_of_awp {P : Program} {f : FuncId} {fn : Func} {c : Code} {args : List AVal} {lev : Nat} {H : Hp} {Q : AVal → Hp → Prop} (hf : P.funcs[f]? = some fn) (hb : fn.body = some c) (hn : hasBody P f = true) (hl : args.length ≤ fn.ntmps)
    (h : awp P c (Ends P fn lev Q) (entry fn.ntmps lev args H)) : ACalls P f args lev H Q := by
  refine ⟨hn, fun S0 w K vs hp hbel hdead hH => ?_⟩
  have hvl : vs.length = args.length := hp.1
  have hR : Rel ⟨S0, ownsIn K H, badOf S0 K H, K, w⟩ (entry fn.ntmps lev args H) { tmps := (⟨vs⟩ : Array Value) ++ Array.replicate (fn.ntmps - (⟨vs⟩ : Array Value).size) undef, defers := [] } w K := by
    refine ⟨?_, rfl, fun t => ?_, fun t => ?_, hH⟩
    · simp only [entry, Array.size_append, Array.size_replicate]
      have : (⟨vs⟩ : Array Value).size = vs.length := rfl
      omega
    · simp only [entry, lk_argT, Nat.zero_le, if_true, Nat.sub_zero]
      cases ha : args[t]? with
      | none => exact .any
      | some x =>
        simp only [Option.getD_some]
        have hlt : t < vs.length := by rw [hvl]; exact (List.getElem?_eq_some_iff.1 ha).1
        have e : ((⟨vs⟩ : Array Value) ++ Array.replicate (fn.ntmps - (⟨vs⟩ : Array Value).size) undef).getD t undef = vs[t] := by
          rw [Array.getD_eq_getD_getElem?, Array.getElem?_append_left (by simpa using hlt)]
          simp [hlt]
        rw [e]
        exact hp.2 t x _ ha (List.getElem?_eq_getElem hlt)
    · simp only [entry, lk_argT, Nat.zero_le, if_true, Nat.sub_zero]
      cases ha : args[t]? with
      | none => rfl
      | some x => exact AVal.bel_mono (Nat.le_succ _) _ ((AVal.belL_iff _ _).1 hbel x (List.mem_of_getElem? ha))
  refine calls_of_wp hf hb (wp_mono (h _ _ w K hR) ?_)
  rintro e a' w' ⟨σ', K', hq, hR'⟩
  have key : (∃ ds σ'', σ'.lev = lev ∧ resV P σ' fn.results.toList = some (ds, σ'') ∧ Q (retVal ds) (fun l t => bif Nat.blt l lev then σ''.H l t else .dead)) →
      a'.defers = [] ∧ ∃ v, (results fn a'.tmps).run P w' = .ok v w' ∧ ∃ v' r H' K', Ending.returned v = .returned v' ∧ Q r H' ∧ HRel ⟨S0, ownsIn K H, badOf S0 K H, K, w⟩ lev H' w' K' ∧ (∀ l t, lev ≤ l → H' l t = .dead) ∧ Rv (badOf S0 K' H') K' w' r v' ∧ r.bel lev = true := by
    rintro ⟨ds, σ'', hlev, hres, hQ⟩
    refine ⟨hR'.defs, ?_⟩
    obtain ⟨F, vs', hrun, hp'⟩ := resV_ok hR' hres
    have hR2 := F.rel a' hR'
    obtain ⟨hd1, hd2⟩ := hR2.hr.drop (H' := fun l t => bif Nat.blt l lev then σ''.H l t else .dead) (fun l t => by
      cases Nat.blt l lev
      · exact .inr rfl
      · exact .inl rfl)
    have hlev2 : σ''.lev = lev := F.lev.trans hlev
    rw [hlev2] at hd1
    have hrunA : (results fn a'.tmps).run P w' = .ok (if h : vs'.length = 1 then vs'[0] else .tuple ⟨vs'⟩) w' := by
      have e : results fn a'.tmps = (do
        let vs ← fn.results.mapM (resOne a'.tmps)
        pure (if h : vs.size = 1 then vs[0] else .tuple vs)) := rfl
      rw [e, Array.mapM_eq_mapM_toList]
      simp [hrun]
    refine ⟨_, hrunA, _, retVal ds, _, K', rfl, hQ, hd1, fun l t hl => ?_, ?_, ?_⟩
    · have : Nat.blt l lev = false := by
        cases hh : Nat.blt l lev
        · rfl
        · rw [Nat.blt_eq] at hh; omega
      simp [this]
    · match ds, vs', hp' with
      | [], [], _ =>
        exact .tup (xs := []) (vs := []) rfl (by simp)
      | [d], [u], hp' =>
        simp only [List.length_singleton, dif_pos, retVal]
        exact .d ((hp'.2 0 d u rfl rfl).mono hd2)
      | d1 :: d2 :: r, u1 :: u2 :: r2, hp' =>
        rw [dif_neg (by simp)]
        simp only [retVal]
        refine .tup (by simpa using hp'.1) (fun j c x hc hx => ?_)
        rw [List.getElem?_map] at hc
        obtain ⟨y, hy, rfl⟩ := Option.map_eq_some_iff.1 hc
        exact .d ((hp'.2 j y x hy hx).mono hd2)
      | [], _ :: _, hp' => have := hp'.1; simp at this
      | [_], [], hp' => have := hp'.1; simp at this
      | [_], _ :: _ :: _, hp' => have := hp'.1; simp at this
      | _ :: _ :: _, [], hp' => have := hp'.1; simp at this
      | _ :: _ :: _, [_], hp' => have := hp'.1; simp at this
    · have hm : ∀ xs : List DVal, AVal.belL lev (xs.map .d) = true := fun xs => by
        rw [AVal.belL_iff]
        intro y hy
        obtain ⟨z, _, rfl⟩ := List.mem_map.1 hy
        rfl
      match ds with
      | [] => rfl
      | [d] => rfl
      | d1 :: d2 :: r => exact hm (d1 :: d2 :: r)
  have key2 : (σ'.lev = lev ∧ aRes lev Q (resV P σ' fn.results.toList)) → ∃ ds σ'', σ'.lev = lev ∧ resV P σ' fn.results.toList = some (ds, σ'') ∧ Q (retVal ds) (fun l t => bif Nat.blt l lev then σ''.H l t else .dead) := by
    rintro ⟨h1, h2⟩
    cases hr : resV P σ' fn.results.toList with
    | none => rw [hr] at h2; exact h2.elim
    | some p => rw [hr] at h2; exact ⟨p.1, p.2, h1, rfl, h2⟩
  cases e with
  | normal => exact key (key2 hq)
  | ret => exact key (key2 hq)
  | _ => exact hq.elim
theorem pcalls_of_awp {P : Program} {f : FuncId} {fn : Func} {c : Code} {args : List DVal} {r : AVal} (hf : P.funcs[f]? = some fn) (hb : fn.body = some c) (hn : hasBody P f = true) (hl : (args.map AVal.d).length ≤ fn.ntmps)
    (h : awp P c (Ends P fn 0 (fun r' _ => r' = r)) (entry fn.ntmps 0 (args.map .d) (fun _ _ => .dead))) : PCalls P f args r := acalls_of_awp hf hb hn hl h
/-- The end of a body that hands an array of its own over. -/
def fRes (σ : St) (sz : Nat) (xs : List DVal) : List ResultVar → Prop
  | [.tmp t] => ∃ k, lk σ.T t = .ref 0 k xs.length ∧ σ.H 0 k = .arr sz xs
  | _ => False
def FEnds (fn : Func) (sz : Nat) (xs : List DVal) : Exit → St → Prop
  | .normal, σ => σ.lev = 0 ∧ fRes σ sz xs fn.results.toList
  | .ret, σ => σ.lev = 0 ∧ fRes σ sz xs fn.results.toList
  | _, _ => False
theorem fcalls_of_awp {P : Program} {f : FuncId} {fn : Func} {c : Code} {args : List DVal} {sz : Nat} {xs : List DVal} (hf : P.funcs[f]? = some fn) (hb : fn.body = some c) (hn : hasBody P f = true) (hl : (args.map AVal.d).length ≤ fn.ntmps)
    (h : awp P c (FEnds fn sz xs) (entry fn.ntmps 0 (args.map .d) (fun _ _ => .dead))) : FCalls P f args sz xs := by
  refine ⟨hn, fun S0 w vs hS hp => ?_⟩
  have hvl : vs.length = (args.map AVal.d).length := by rw [List.length_map]; exact hp.1
  let K : Kt := fun _ _ _ => none
  have hbad : ∀ b, badOf S0 K (fun _ _ => .dead) b → S0 b := fun b hb => by rcases hb with hb | ⟨_, _, hb⟩; exact hb; exact hb.elim
  have hR : Rel ⟨S0, ownsIn K (fun _ _ => .dead), badOf S0 K (fun _ _ => .dead), K, w⟩ (entry fn.ntmps 0 (args.map .d) (fun _ _ => .dead)) { tmps := (⟨vs⟩ : Array Value) ++ Array.replicate (fn.ntmps - (⟨vs⟩ : Array Value).size) undef, defers := [] } w K := by
    refine ⟨?_, rfl, fun t => ?_, fun t => ?_, HRel.dead hS⟩
    · simp only [entry, Array.size_append, Array.size_replicate]
      have : (⟨vs⟩ : Array Value).size = vs.length := rfl
      omega
    · simp only [entry, lk_argT, Nat.zero_le, if_true, Nat.sub_zero]
      cases ha : (args.map AVal.d)[t]? with
      | none => exact .any
      | some x =>
        simp only [Option.getD_some]
        have hlt : t < vs.length := by rw [hvl]; exact (List.getElem?_eq_some_iff.1 ha).1
        have e : ((⟨vs⟩ : Array Value) ++ Array.replicate (fn.ntmps - (⟨vs⟩ : Array Value).size) undef).getD t undef = vs[t] := by
          rw [Array.getD_eq_getD_getElem?, Array.getElem?_append_left (by simpa using hlt)]
          simp [hlt]
        rw [e]
        rw [List.getElem?_map] at ha
        obtain ⟨y, hy, rfl⟩ := Option.map_eq_some_iff.1 ha
        exact .d ((hp.2 t y _ hy (List.getElem?_eq_getElem hlt)).mono fun b _ hb => ⟨fun e => hb (hbad b e), rfl⟩)
    · simp only [entry, lk_argT, Nat.zero_le, if_true, Nat.sub_zero]
      cases ha : (args.map AVal.d)[t]? with
      | none => rfl
      | some x =>
        rw [List.getElem?_map] at ha
        obtain ⟨y, _, rfl⟩ := Option.map_eq_some_iff.1 ha
        rfl
  refine calls_of_wp hf hb (wp_mono (h _ _ w K hR) ?_)
  rintro e a' w' ⟨σ', K', hq, hR'⟩
  have key : (σ'.lev = 0 ∧ fRes σ' sz xs fn.results.toList) → a'.defers = [] ∧ ∃ v, (results fn a'.tmps).run P w' = .ok v w' ∧ ∃ ad cap, Ending.returned v = .returned (.slice ad xs.length cap) ∧ Ch (fun _ => False) w w' ∧ (∀ x ∈ xs, x.cells.length = sz) ∧ xs.length ≤ cap ∧
      ArrAt (fun b => S0 b ∨ ∃ x, ad = some x ∧ b = x.block) w' w' sz xs cap ad ∧ ∀ x, ad = some x → w.heap.size ≤ x.block := by
    rintro ⟨hlev, hres⟩
    refine ⟨hR'.defs, ?_⟩
    cases hrs : fn.results.toList with
    | nil => rw [hrs] at hres; exact hres.elim
    | cons r rest =>
    cases rest with
    | cons r2 rest2 => rw [hrs] at hres; cases r <;> exact hres.elim
    | nil =>
    cases r with
    | cell ad ty => rw [hrs] at hres; exact hres.elim
    | tmp t =>
      rw [hrs] at hres
      obtain ⟨k, hlk, hH⟩ := hres
      have htm := hR'.tm t
      rw [hlk] at htm
      have hob := hR'.hr.ob 0 k
      rw [hH] at hob
      obtain ⟨_, a0, cap0, hK0, hcs, hcap, hat⟩ := hob
      have hrun : (results fn a'.tmps).run P w' = .ok (a'.tmps.getD t undef) w' := by
        have e : results fn a'.tmps = (do
          let vs ← fn.results.mapM (resOne a'.tmps)
          pure (if h : vs.size = 1 then vs[0] else .tuple vs)) := rfl
        rw [e, Array.mapM_eq_mapM_toList, hrs]
        simp [resOne]
      refine ⟨_, hrun, ?_⟩
      generalize a'.tmps.getD t undef = v at htm
      cases htm with
      | ref hk =>
        rw [hK0] at hk
        simp only [Option.some.injEq, Prod.mk.injEq] at hk
        obtain ⟨rfl, rfl, rfl⟩ := hk
        refine ⟨a0, cap0, rfl, hR'.hr.ext.mono (fun b ⟨_, _, e⟩ => e.elim), hcs, hcap, ?_, fun x hx => ?_⟩
        · cases a0 with
          | none => exact hat
          | some b =>
            obtain ⟨h1, vs', ty, fz, h2, h3, h4, h5⟩ := hat
            refine ⟨h1, vs', ty, fz, h2, h3, h4, fun j c hcj => ?_⟩
            obtain ⟨u, hu, hu1, hu2⟩ := h5 j c hcj
            refine ⟨u, hu, hu1, hu2.mono fun b' _ hb' => ⟨fun e => hb' ?_, rfl⟩⟩
            rcases e with e | ⟨x, hx, rfl⟩
            · exact .inl e
            · cases hx
              refine .inr ⟨0, k, ?_⟩
              rw [hH]
              obtain ⟨b0, o0, s0⟩ := b
              simp only at h1
              subst h1
              exact ⟨o0, _, hK0⟩
        · subst hx
          have hown : (σ'.H 0 k).own K' 0 k x.block := by
            rw [hH]
            cases hat with
            | intro h1 _ =>
              obtain ⟨b0, o0, s0⟩ := x
              simp only at h1
              subst h1
              exact ⟨o0, _, hK0⟩
          rcases hR'.hr.new 0 k _ hown with ⟨_, _, e⟩ | e
          · exact e.elim
          · exact e
  cases e with
  | normal => exact key hq
  | ret => exact key hq
  | _ => exact hq.elim
end Go.Fw
