/- One order stands for all: the proof. -/
import Derived.Test.YtpgnhajindbhlaaFwT
import Derived.Attr
set_option autoImplicit false
namespace Go.Fw
abbrev Rec := Nat × Nat × Nat × Bool
abbrev OrdF := Nat → Nat → Bool
def ordB (ms : List Nat) (i j : Nat) : Bool := (ms.getD i 0).testBit j || (ms.getD j 0).testBit i
def recB (O : OrdF) (i l t : Nat) (w : Bool) : List Rec → Bool
  | [] => true
  | (j, l', t', w') :: rs => (bif Nat.beq l l' && Nat.beq t t' && (w || w') then O i j else true) && recB O i l t w rs
def OkR (O : OrdF) (i : Nat) (c : Option Cl) (rs : List Rec) : Prop :=
  match c with
  | some (.mem l t w) => recB O i l t w rs = true
  | _ => True
def addR (i : Nat) (c : Option Cl) (rs : List Rec) : List Rec :=
  match c with
  | some (.mem l t w) => (i, l, t, w) :: rs
  | _ => rs
def aloneB (ops : Array Oper) (ms : List Nat) (i : Nat) : Bool := (List.range ops.size).all fun j => j == i || (ordB ms i j && (Nat.blt j i || !((ops[j]?).any fun o => newK o.op)))
theorem recB_iff {O : OrdF} {i l t : Nat} {w : Bool} : ∀ {rs : List Rec}, recB O i l t w rs = true ↔ ∀ r ∈ rs, O i r.1 = true ∨ ¬ (l = r.2.1 ∧ t = r.2.2.1) ∨ (w = false ∧ r.2.2.2 = false)
  | [] => by simp [recB]
  | (j, l', t', w') :: rs => by
    simp only [recB, Bool.and_eq_true, recB_iff (rs := rs), List.forall_mem_cons]
    refine and_congr_left fun _ => ?_
    by_cases h : l = l' ∧ t = t'
    · obtain ⟨rfl, rfl⟩ := h
      cases w <;> cases w' <;> simp
    · have e : (Nat.beq l l' && Nat.beq t t') = false := by
        cases h1 : Nat.beq l l'
        · rfl
        · cases h2 : Nat.beq t t'
          · rfl
          · exact absurd ⟨Nat.eq_of_beq_eq_true h1, Nat.eq_of_beq_eq_true h2⟩ h
      rw [e]
      simp [h]
theorem OkR.sub {O : OrdF} {i : Nat} {c : Option Cl} {rs rs' : List Rec} (h : OkR O i c rs) (hs : ∀ r ∈ rs', r ∈ rs) : OkR O i c rs' := by
  unfold OkR at *
  split
  · simp only at h; exact recB_iff.2 fun r hr => recB_iff.1 h r (hs r hr)
  · trivial
theorem addR_sub {i : Nat} {c : Option Cl} {rs rs' : List Rec} (hs : ∀ r ∈ rs', r ∈ rs) : ∀ r ∈ addR i c rs', r ∈ addR i c rs := by
  unfold addR
  split
  · intro r hr
    rcases List.mem_cons.1 hr with h | h
    · exact List.mem_cons.2 (.inl h)
    · exact List.mem_cons_of_mem _ (hs r h)
  · exact hs
theorem addR_keep {i : Nat} {c : Option Cl} {rs : List Rec} : ∀ r ∈ rs, r ∈ addR i c rs := by
  unfold addR
  split
  · exact fun r hr => List.mem_cons_of_mem _ hr
  · exact fun r hr => hr
noncomputable def dAny (P : Program) (ops : Array Oper) (ms : List Nat) (N : St → Prop) : Nat → Array Bool → List Rec → St → Prop
  | 0, listed, _, σ => Region.ready .any ops listed = [] ∧ ∃ τ, Eqv τ σ ∧ N τ
  | f + 1, listed, rs, σ => (Region.ready .any ops listed = [] → ∃ τ, Eqv τ σ ∧ N τ) ∧ ∀ i ∈ Region.ready .any ops listed, ∀ o, ops[i]? = some o → ∃ τ, Eqv τ σ ∧
      DOp P ops (aloneB ops ms i = true) (fun c σ' => OkR (ordB ms) i c rs ∧ dAny P ops ms N f (listed.setIfInBounds i true) (addR i c rs) σ') o τ
section
variable {P : Program} {ops : Array Oper} {ms : List Nat} {N : St → Prop}
theorem dAny_eqv : ∀ {f : Nat} {listed : Array Bool} {rs : List Rec} {σ σ' : St}, Eqv σ σ' → dAny P ops ms N f listed rs σ → dAny P ops ms N f listed rs σ'
  | 0, _, _, _, _, hE, ⟨h, τ, h1, h2⟩ => ⟨h, τ, h1.trans hE, h2⟩
  | f + 1, _, _, _, _, hE, ⟨h, k⟩ => ⟨fun hr => let ⟨τ, h1, h2⟩ := h hr; ⟨τ, h1.trans hE, h2⟩, fun i hi o ho => let ⟨τ, h1, h2⟩ := k i hi o ho; ⟨τ, h1.trans hE, h2⟩⟩
theorem DOp.mono {A : Prop} {K K' : Option Cl → St → Prop} {o : Oper} {σ : St} (h : DOp P ops A K o σ) (hk : ∀ c σ', K c σ' → K' c σ') : DOp P ops A K' o σ := by
  unfold DOp at *
  cases hg : gdOf ops σ o with
  | none => rw [hg] at h; exact h.elim
  | some b =>
    rw [hg] at h
    simp only [aG] at h ⊢
    cases b with
    | false => rw [aIf_false] at h ⊢; exact ⟨h.1, hk _ _ h.2⟩
    | true =>
      rw [aIf_true] at h ⊢
      cases hc : callD σ o.op with
      | some p =>
        obtain ⟨f, args⟩ := p
        rw [hc] at h
        simp only [dC] at h ⊢
        refine ⟨h.1, ?_⟩
        rcases h.2 with ⟨r, h1, h2, h3, h4⟩ | ⟨ha, h⟩
        · exact .inl ⟨r, h1, h2, h3, hk _ _ h4⟩
        · refine .inr ⟨ha, ?_⟩
          rcases h with ⟨ds, σ1, r, h1, h2, h3⟩ | ⟨m, args', σ1, h1, h⟩ | ⟨bb, d, ds, σ1, sz, xs, h0, h1, h2, h3⟩
          · exact .inl ⟨ds, σ1, r, h1, h2, hk _ _ h3⟩
          · exact .inr (.inl ⟨m, args', σ1, h1, h.mono fun r H' hn => hk _ _ hn⟩)
          · exact .inr (.inr ⟨bb, d, ds, σ1, sz, xs, h0, h1, h2, hk _ _ h3⟩)
      | none =>
        rw [hc] at h
        simp only [dC] at h ⊢
        cases hs : stepOp P σ o with
        | none => rw [hs] at h; cases hcl : cls P σ o.op <;> rw [hcl] at h <;> exact h.elim
        | some σ' =>
          rw [hs] at h
          cases hcl : cls P σ o.op with
          | none => rw [hcl] at h; exact ⟨h.1, hk _ _ h.2⟩
          | some c => rw [hcl] at h; exact hk _ _ h
theorem dAny_sub : ∀ {f : Nat} {listed : Array Bool} {rs rs' : List Rec} {σ : St}, (∀ r ∈ rs', r ∈ rs) → dAny P ops ms N f listed rs σ → dAny P ops ms N f listed rs' σ
  | 0, _, _, _, _, _, h => h
  | f + 1, _, _, _, _, hs, ⟨h, k⟩ => ⟨h, fun i hi o ho => let ⟨τ, h1, h2⟩ := k i hi o ho; ⟨τ, h1, h2.mono fun c σ' ⟨a, b⟩ => ⟨a.sub hs, dAny_sub (addR_sub hs) b⟩⟩⟩
theorem dAny_sound {Q : Exit → Act → World → Prop} {E : Env} (hN : ∀ σ a w K, N σ → Rel E σ a w K → Q .normal a w) : ∀ (f : Nat) (listed : Array Bool) (rs : List Rec) (σ : St) (a : Act) (w : World) (K : Kt), dAny P ops ms N f listed rs σ → Rel E σ a w K → wpAny P .any ops Q f listed a w
  | 0, _, _, _, _, _, _, ⟨h, τ, h1, h2⟩, hR => ⟨h, hN τ _ _ _ h2 (hR.eqv h1.symm)⟩
  | f + 1, listed, rs, σ, a, w, K, ⟨h, k⟩, hR => by
    refine ⟨fun hr => let ⟨τ, h1, h2⟩ := h hr; hN τ _ _ _ h2 (hR.eqv h1.symm), fun i hi => ?_⟩
    obtain ⟨_, o, ho, _⟩ := mem_ready.1 hi
    obtain ⟨τ, h1, h2⟩ := k i hi o ho
    exact DOp_sound ho (fun c σ' a' w' K' hk hR' => dAny_sound hN f _ _ σ' a' w' K' hk.2 hR') h2 (hR.eqv h1.symm)
def closed (ops : Array Oper) (listed : Array Bool) : Prop := ∀ (j : Nat) (oj : Oper), ops[j]? = some oj → listed.getD j false = true → ∀ e ∈ oj.after, Region.binds .any e = true → listed.getD e.on false = true
structure Stat (ops : Array Oper) (ms : List Nat) : Prop where
  anc : ∀ (listed : Array Bool) (j : Nat) (oj : Oper) (i : Nat), closed ops listed → ops[j]? = some oj → (∀ e ∈ oj.after, Region.binds .any e = true → listed.getD e.on false = true) → (ms.getD j 0).testBit i = true → listed.getD i false = true
  apart : ∀ (i j : Nat) (oi oj : Oper), ops[i]? = some oi → ops[j]? = some oj → i ≠ j → ordB ms i j = false → oi.apart ops oj = true
  dst : ∀ (i j : Nat) (oi oj : Oper) (d : Tmp), ops[i]? = some oi → ops[j]? = some oj → i ≠ j → newK oj.op = true → oj.dst = some d → oi.dst ≠ some d
def FreeU (ops : Array Oper) (listed : Array Bool) (σ : St) : Prop := ∀ (j : Nat) (oj : Oper) (d : Tmp), ops[j]? = some oj → listed.getD j true = false → newK oj.op = true → oj.dst = some d → Fre σ.lev d σ
theorem ne_listed {listed : Array Bool} {i : Nat} (h : listed.getD i true = false) : ¬ listed.getD i false = true := by
  rw [Array.getD_eq_getD_getElem?] at *
  cases hx : listed[i]? with
  | none => rw [hx] at h; simp at h
  | some b => rw [hx] at h; simp at h; simp [h]
theorem not_ord {listed : Array Bool} {i j : Nat} (hS : Stat ops ms) (hc : closed ops listed) (hi : i ∈ Region.ready .any ops listed) (hj : j ∈ Region.ready .any ops listed) : ordB ms i j = false := by
  obtain ⟨hi0, oi, hoi, hia⟩ := mem_ready.1 hi
  obtain ⟨hj0, oj, hoj, hja⟩ := mem_ready.1 hj
  cases h : ordB ms i j with
  | false => rfl
  | true =>
    simp only [ordB, Bool.or_eq_true] at h
    rcases h with h | h
    · exact absurd (hS.anc listed i oi j hc hoi (fun e he hb => hia e he hb) h) (ne_listed hj0)
    · exact absurd (hS.anc listed j oj i hc hoj (fun e he hb => hja e he hb) h) (ne_listed hi0)
theorem closed.add {listed : Array Bool} {i : Nat} (hc : closed ops listed) (hi : i ∈ Region.ready .any ops listed) : closed ops (listed.setIfInBounds i true) := by
  intro j oj hj hl e he hb
  by_cases hij : i = j
  · subst hij
    obtain ⟨_, o, ho, hall⟩ := mem_ready.1 hi
    rw [ho] at hj
    cases hj
    exact getD_set_true (hall e he hb)
  · rw [getD_set_ne false hij] at hl
    exact getD_set_true (hc j oj hj hl e he hb)
theorem ordB_comm (i j : Nat) : ordB ms i j = ordB ms j i := by unfold ordB; rw [Bool.or_comm]
theorem alone_not {i j : Nat} (h : aloneB ops ms i = true) (hj : j < ops.size) (hne : j ≠ i) : ordB ms i j = true := by
  unfold aloneB at h
  rw [List.all_eq_true] at h
  have := h j (List.mem_range.2 hj)
  simp only [Bool.or_eq_true, beq_iff_eq, Bool.and_eq_true] at this
  rcases this with h | h
  · exact absurd h hne
  · exact h.1
/-- The effect's use. -/
theorem Step.fr0 {o : Oper} {σ : St} {c : Cl} {e : Eff} {listed : Array Bool} {i : Nat} (h : Step P ops o σ c e) (ho : ops[i]? = some o) (hl : listed.getD i true = false) (hF : FreeU ops listed σ) : Fr0 σ c o.dst :=
  fun hc d hd => hF i o d ho hl (h.new hc) hd
theorem FreeU.step {o : Oper} {σ : St} {c : Cl} {e : Eff} {listed : Array Bool} {i : Nat} (hS : Stat ops ms) (hF : FreeU ops listed σ) (h : Step P ops o σ c e) (ho : ops[i]? = some o) (hl : listed.getD i true = false) :
    FreeU ops (listed.setIfInBounds i true) (e.app σ o.dst) := by
  intro j oj d hj hlj hn hd
  have hij : i ≠ j := fun e => by
    subst e
    rw [Array.getD_eq_getD_getElem?, Array.getElem?_setIfInBounds] at hlj
    simp at hlj
    split at hlj <;> simp at hlj
  rw [getD_set_ne true hij] at hlj
  have hFj := hF j oj d hj hlj hn hd
  rw [app_lev]
  exact app_fre h.fits (h.fr0 ho hl hF) hFj (h.free _ _ (fun k _ => hFj.1 k) (fun _ _ _ _ => hFj.2 _ _) fun _ ⟨_, hx⟩ => hS.dst i j o oj d ho hj hij hn hd hx)
theorem FreeU.eqv {listed : Array Bool} {σ τ : St} (hF : FreeU ops listed σ) (hE : Eqv σ τ) : FreeU ops listed τ := fun j oj d hj hl hn hd => by rw [hE.lev]; exact (hF j oj d hj hl hn hd).eqv hE
theorem up_slot {e : Eff} {c : Cl} {lev : Nat} {dst : Option Tmp} {u : Nat × Nat × AObj} (hf : e.fits c lev dst) (hu : e.up = some u) : c = .mem u.1 u.2.1 true ∨ (c = .new ∧ u.1 = lev ∧ dst = some u.2.1) := by
  cases c with
  | pure => simp only [Eff.fits] at hf; rw [hf] at hu; cases hu
  | mem l t w =>
    cases w with
    | false => simp only [Eff.fits] at hf; rw [hf] at hu; cases hu
    | true => obtain ⟨_, ob, h⟩ := hf; rw [h] at hu; cases hu; exact .inl rfl
  | new => obtain ⟨_, d, ob, rfl, h⟩ := hf; rw [h] at hu; cases hu; exact .inr ⟨rfl, rfl, rfl⟩
/-- Another's step leaves what is looked at. -/
theorem Step.agr {o o' : Oper} {σ : St} {c c' : Cl} {e' : Eff} (h' : Step P ops o' σ c' e') (h0' : Fr0 σ c' o'.dst) (hlk : ∀ d, o'.dst = some d → d ∉ o.looksAt ops)
    (hm : ∀ l t w l' t', c = .mem l t w → c' = .mem l' t' true → ¬ (l = l' ∧ t = t')) (hn : ∀ l t w d, c = .mem l t w → c' = .new → o'.dst = some d → ¬ (l = σ.lev ∧ t = d)) : Agr c (o.looksAt ops) σ (e'.app σ o'.dst) := by
  refine ⟨app_n, app_lev, fun t ht => ?_, fun l t w hc => ?_⟩
  · rw [app_lk h'.fits h0', if_neg (fun e => hlk t e ht)]
  · rw [app_H h'.fits h0']
    cases hu : e'.up with
    | none => rfl
    | some u =>
      simp only
      rw [if_neg]
      rintro ⟨rfl, rfl⟩
      rcases up_slot h'.fits hu with e | ⟨e, h1, h2⟩
      · exact hm _ _ _ _ _ hc e ⟨rfl, rfl⟩
      · exact hn _ _ _ _ hc e h2 ⟨h1, rfl⟩
theorem Agr.trans {c : Cl} {ls : List Tmp} {σ τ ρ : St} (h : Agr c ls σ τ) (k : Agr c ls τ ρ) : Agr c ls σ ρ :=
  ⟨k.1.trans h.1, k.2.1.trans h.2.1, fun t ht => (k.2.2.1 t ht).trans (h.2.2.1 t ht), fun l t w hc => (k.2.2.2 l t w hc).trans (h.2.2.2 l t w hc)⟩
theorem Agr.symm {c : Cl} {ls : List Tmp} {σ τ : St} (h : Agr c ls σ τ) : Agr c ls τ σ := ⟨h.1.symm, h.2.1.symm, fun t ht => (h.2.2.1 t ht).symm, fun l t w hc => (h.2.2.2 l t w hc).symm⟩
theorem Agr.eqv {c : Cl} {ls : List Tmp} {σ τ : St} (h : Eqv σ τ) : Agr c ls σ τ := ⟨h.n, h.lev, fun t _ => h.T t, fun l t _ _ => by rw [h.H]⟩
theorem Step.move {o : Oper} {σ τ : St} {c : Cl} {e : Eff} (h : Step P ops o σ c e) (hA : Agr c (o.looksAt ops) σ τ) : Step P ops o τ c e := by
  refine ⟨by rw [hA.2.1]; exact h.fits, h.new, fun ρ A K' hB hK => h.go ρ A K' (hA.trans hB) hK, fun l t hj => h.slot l t fun j hj' => ?_, fun l t hj hH hn => h.free l t (fun j hj' => ?_) (fun l' t' w hc => ?_) (by rw [← hA.2.1]; exact hn)⟩
  · rw [← hA.2.2.1 j hj']; exact hj j hj'
  · rw [← hA.2.2.1 j hj']; exact hj j hj'
  · rw [← hA.2.2.2 l' t' w hc]; exact hH l' t' w hc
end
end Go.Fw
