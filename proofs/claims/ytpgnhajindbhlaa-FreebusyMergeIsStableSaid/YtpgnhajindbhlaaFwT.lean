/- Regions whose order is drawn: one order stands for all. -/
import Derived.Test.YtpgnhajindbhlaaFwS
import Derived.Orders
set_option autoImplicit false
namespace Go.Fw
structure Eqv (σ τ : St) : Prop where
  n : τ.n = σ.n
  lev : τ.lev = σ.lev
  H : τ.H = σ.H
  T : ∀ t, lk τ.T t = lk σ.T t
theorem Eqv.refl (σ : St) : Eqv σ σ := ⟨rfl, rfl, rfl, fun _ => rfl⟩
theorem Eqv.symm {σ τ : St} (h : Eqv σ τ) : Eqv τ σ := ⟨h.n.symm, h.lev.symm, h.H.symm, fun t => (h.T t).symm⟩
theorem Eqv.trans {σ τ ρ : St} (h : Eqv σ τ) (k : Eqv τ ρ) : Eqv σ ρ := ⟨k.n.trans h.n, k.lev.trans h.lev, k.H.trans h.H, fun t => (k.T t).trans (h.T t)⟩
theorem Rel.eqv {E : Env} {σ τ : St} {a : Act} {w : World} {K : Kt} (h : Rel E σ a w K) (e : Eqv σ τ) : Rel E τ a w K := by
  refine ⟨by rw [e.n]; exact h.size, h.defs, fun t => ?_, fun t => ?_, ?_⟩
  · rw [e.T, e.H]; exact h.tm t
  · rw [e.T, e.lev]; exact h.tb t
  · rw [e.lev, e.H]; exact h.hr
def Fre (l t : Nat) (σ : St) : Prop := (∀ j, (lk σ.T j).purge l t = lk σ.T j) ∧ ∀ l' t', (σ.H l' t').purge l t = σ.H l' t'
def Fr0 (σ : St) (c : Cl) (dst : Option Tmp) : Prop := c = .new → ∀ d, dst = some d → Fre σ.lev d σ
section
variable {e : Eff} {c : Cl} {σ : St} {dst : Option Tmp}
theorem app_n : (e.app σ dst).n = σ.n := by
  unfold Eff.app
  split
  · cases dst <;> rfl
  · cases e.nw
    · cases dst <;> rfl
    · rfl
theorem app_lev : (e.app σ dst).lev = σ.lev := by
  unfold Eff.app
  split
  · cases dst <;> rfl
  · cases e.nw
    · cases dst <;> rfl
    · rfl
theorem put_lk (σ : St) (dst : Option Tmp) (x : AVal) (t : Nat) : lk (σ.put dst x).T t = if dst = some t then x else lk σ.T t := by
  cases dst with
  | none => simp [St.put]
  | some d => simp [St.put, lk_setT]
theorem put_H (σ : St) (dst : Option Tmp) (x : AVal) : (σ.put dst x).H = σ.H := by cases dst <;> rfl
theorem app_lk (hf : e.fits c σ.lev dst) (h0 : Fr0 σ c dst) (t : Nat) : lk (e.app σ dst).T t = if dst = some t then e.r else lk σ.T t := by
  cases c with
  | pure => simp only [Eff.fits] at hf; simp only [Eff.app, hf]; exact put_lk ..
  | mem l s w =>
    cases w with
    | false => simp only [Eff.fits] at hf; simp only [Eff.app, hf]; exact put_lk ..
    | true => obtain ⟨h1, ob, h2⟩ := hf; simp only [Eff.app, h1, h2, cond_false]; exact put_lk ..
  | new =>
    obtain ⟨h1, d, ob, rfl, h2⟩ := hf
    have hF := h0 rfl d rfl
    simp only [Eff.app, h1, h2, cond_true, St.alloc, lk_setT, lk_purgeT, hF.1, Option.some.injEq]
theorem app_H (hf : e.fits c σ.lev dst) (h0 : Fr0 σ c dst) (l t : Nat) : (e.app σ dst).H l t = match e.up with | none => σ.H l t | some (l', t', ob) => if l = l' ∧ t = t' then ob else σ.H l t := by
  cases c with
  | pure => simp only [Eff.fits] at hf; simp only [Eff.app, hf, put_H]
  | mem l' s w =>
    cases w with
    | false => simp only [Eff.fits] at hf; simp only [Eff.app, hf, put_H]
    | true =>
      obtain ⟨h1, ob, h2⟩ := hf
      simp only [Eff.app, h1, h2, cond_false, put_H, Hp.set]
      by_cases hq : l = l' ∧ t = s
      · obtain ⟨rfl, rfl⟩ := hq; simp
      · rw [if_neg hq]
        have : (l == l' && t == s) = false := by simpa using hq
        rw [this]; rfl
  | new =>
    obtain ⟨h1, d, ob, rfl, h2⟩ := hf
    have hF := h0 rfl d rfl
    simp only [Eff.app, h1, h2, cond_true, St.alloc, Hp.alloc]
    by_cases hl : l = σ.lev
    · subst hl
      by_cases ht : t = d
      · subst ht; simp
      · have e2 : (t == d) = false := by simpa using ht
        simp [e2, ht, hF.2]
    · have e1 : (l == σ.lev) = false := by simpa using hl
      simp [e1, hl]
theorem app_fre {l t : Nat} (hf : e.fits c σ.lev dst) (h0 : Fr0 σ c dst) (h : Fre l t σ) (he : e.free l t) : Fre l t (e.app σ dst) := by
  refine ⟨fun j => ?_, fun l' t' => ?_⟩
  · rw [app_lk hf h0]
    split
    · exact he.1
    · exact h.1 j
  · rw [app_H hf h0]
    split
    · exact h.2 l' t'
    · rename_i l2 t2 ob hu
      split
      · exact he.2 _ hu
      · exact h.2 l' t'
theorem Fre.eqv {l t : Nat} {τ : St} (h : Fre l t σ) (hE : Eqv σ τ) : Fre l t τ := ⟨fun j => by rw [hE.T]; exact h.1 j, fun l' t' => by rw [hE.H]; exact h.2 l' t'⟩
theorem app_eqv {τ : St} (hf : e.fits c σ.lev dst) (h0 : Fr0 σ c dst) (hE : Eqv σ τ) : Eqv (e.app σ dst) (e.app τ dst) := by
  have h0' : Fr0 τ c dst := fun hc d hd => by rw [hE.lev]; exact (h0 hc d hd).eqv hE
  have hf' : e.fits c τ.lev dst := by rw [hE.lev]; exact hf
  refine ⟨by rw [app_n, app_n, hE.n], by rw [app_lev, app_lev, hE.lev], ?_, fun t => by rw [app_lk hf h0, app_lk hf' h0', hE.T]⟩
  funext l t
  rw [app_H hf h0, app_H hf' h0', hE.H]
theorem app_comm {e' : Eff} {c' : Cl} {dst' : Option Tmp} (hf : e.fits c σ.lev dst) (h0 : Fr0 σ c dst) (hf' : e'.fits c' σ.lev dst') (h0' : Fr0 σ c' dst') (h1 : Fr0 (e'.app σ dst') c dst) (h1' : Fr0 (e.app σ dst) c' dst')
    (hd : ∀ d, dst = some d → dst' ≠ some d) (hu : ∀ u u', e.up = some u → e'.up = some u' → ¬ (u.1 = u'.1 ∧ u.2.1 = u'.2.1)) : Eqv (e'.app (e.app σ dst) dst') (e.app (e'.app σ dst') dst) := by
  have g1 : e.fits c (e'.app σ dst').lev dst := by rw [app_lev]; exact hf
  have g2 : e'.fits c' (e.app σ dst).lev dst' := by rw [app_lev]; exact hf'
  refine ⟨by simp only [app_n], by simp only [app_lev], ?_, fun t => ?_⟩
  · funext l t
    rw [app_H g1 h1, app_H g2 h1', app_H hf h0, app_H hf' h0']
    cases hx : e.up with
    | none => cases hy : e'.up <;> rfl
    | some u =>
      cases hy : e'.up with
      | none => rfl
      | some u' =>
        have := hu u u' hx hy
        simp only
        by_cases a : l = u.1 ∧ t = u.2.1
        · by_cases b : l = u'.1 ∧ t = u'.2.1
          · exact absurd ⟨a.1.symm.trans b.1, a.2.symm.trans b.2⟩ this
          · simp [a, b]
            intro b1 b2
            exact absurd ⟨a.1.trans b1, a.2.trans b2⟩ b
        · simp [a]
  · rw [app_lk g1 h1, app_lk g2 h1', app_lk hf h0, app_lk hf' h0']
    by_cases a : dst = some t
    · have := hd t a
      rw [if_pos a, if_neg this, if_pos a]
    · rw [if_neg a, if_neg a]
end

/-! ### One operation of such a region -/
def Agr (c : Cl) (ls : List Tmp) (σ τ : St) : Prop := τ.n = σ.n ∧ τ.lev = σ.lev ∧ (∀ t ∈ ls, lk τ.T t = lk σ.T t) ∧ ∀ l t w, c = .mem l t w → τ.H l t = σ.H l t
def dS (A : Prop) (K : Option Cl → St → Prop) : Option Cl → Option St → Prop
  | _, none => False
  | none, some σ' => A ∧ K none σ'
  | some c, some σ' => K (some c) σ'
def DCall (P : Program) (A : Prop) (K : Option Cl → St → Prop) (σ : St) (dst : Option Tmp) (f : FuncId) (args : List AVal) : Prop :=
  (∃ r, allD args = true ∧ r.bel 0 = true ∧ PCalls P f (args.map datum) r ∧ K (some .pure) (σ.put dst r)) ∨ (A ∧ CallOk P σ f args dst (K none))
@[congr] theorem dS_congr {A : Prop} {K : Option Cl → St → Prop} {c c' : Option Cl} {o o' : Option St} (h : c = c') (k : o = o') : dS A K c o = dS A K c' o' := by rw [h, k]
@[congr] theorem DCall_congr {P : Program} {A : Prop} {K : Option Cl → St → Prop} {σ σ' : St} {dst : Option Tmp} {f : FuncId} {args args' : List AVal} (h : σ = σ') (k : args = args') : DCall P A K σ dst f args = DCall P A K σ' dst f args' := by rw [h, k]
noncomputable def dC (P : Program) (A : Prop) (K : Option Cl → St → Prop) (o : Oper) (σ : St) : Option (FuncId × List AVal) → Prop
  | some (f, args) => okDst σ.n o.dst = true ∧ DCall P A K σ o.dst f args
  | none => dS A K (cls P σ o.op) (stepOp P σ o)
@[congr] theorem dC_congr {P : Program} {A : Prop} {K : Option Cl → St → Prop} {o : Oper} {σ : St} {c c' : Option (FuncId × List AVal)} (h : c = c') : dC P A K o σ c = dC P A K o σ c' := by rw [h]
noncomputable def DOp (P : Program) (ops : Array Oper) (A : Prop) (K : Option Cl → St → Prop) (o : Oper) (σ : St) : Prop :=
  aG (fun b => aIf b (dC P A K o σ (callD σ o.op)) (okDst σ.n o.dst = true ∧ K (some .pure) (σ.put o.dst (.tup [])))) (gdOf ops σ o)
theorem DOp_sound {P : Program} {ops : Array Oper} {A : Prop} {K : Option Cl → St → Prop} {KK : Act → World → Prop} {Q : Exit → Act → World → Prop} {i : Nat} {o : Oper} {E : Env} {σ : St} {a : Act} {w : World} {Kt : Kt} (ho : ops[i]? = some o)
    (hK : ∀ c σ' a' w' K', K c σ' → Rel E σ' a' w' K' → KK a' w') (h : DOp P ops A K o σ) (hR : Rel E σ a w Kt) : wpOp P ops Q i KK a w := by
  unfold wpOp
  rw [ho]
  simp only
  unfold DOp at h
  cases hg : gdOf ops σ o with
  | none => rw [hg] at h; exact h.elim
  | some b =>
    rw [hg] at h
    simp only [aG] at h
    have hw := gdOf_eq hR hg
    cases b with
    | false =>
      rw [aIf_false] at h
      rw [hw, if_neg (by simp)]
      exact hK _ _ _ _ _ h.2 (hR.put_pure h.1 (.tup (xs := []) (vs := []) rfl (by simp)) rfl)
    | true =>
      rw [aIf_true] at h
      rw [hw, if_pos rfl]
      left
      cases hc : callD σ o.op with
      | some p =>
        obtain ⟨f, args⟩ := p
        rw [hc] at h
        simp only [dC] at h
        obtain ⟨hd, h⟩ := h
        have h2 : ∃ c, CallOk P σ f args o.dst (K c) := by
          rcases h with ⟨r, h1, h2, h3, h4⟩ | h
          · exact ⟨_, .inl ⟨_, σ, r, frzL_allD σ h1, h3, by cases scalarA r <;> exact h4⟩⟩
          · exact ⟨_, h.2⟩
        obtain ⟨c, h2⟩ := h2
        have hb : hasBody P f = true := by
          rcases h2 with ⟨_, _, _, _, h, _⟩ | ⟨_, _, _, _, h⟩ | ⟨_, _, _, _, _, _, _, _, h, _⟩
          · exact h.1
          · exact h.1
          · exact h.1
        obtain ⟨vs, hrun, hp, hbel⟩ := run_call hR (show callOf σ o = some (f, args) from hc) hb
        unfold Oper.wp
        rw [hrun]
        simp only [Oper.upon_enter]
        refine (callOk_sound hR hd hp hbel h2).mono ?_
        rintro e w' ⟨v, σ', K', rfl, hN', hR'⟩
        exact hK _ _ _ _ _ hN' hR'
      | none =>
        rw [hc] at h
        simp only [dC] at h
        cases hs : stepOp P σ o with
        | none => rw [hs] at h; cases hcl : cls P σ o.op <;> rw [hcl] at h <;> exact h.elim
        | some σ' =>
          have h2 : ∃ c, K c σ' := by
            rw [hs] at h
            cases hcl : cls P σ o.op with
            | none => rw [hcl] at h; exact ⟨_, h.2⟩
            | some c => rw [hcl] at h; exact ⟨_, h⟩
          obtain ⟨c, h2⟩ := h2
          obtain ⟨v, w', K', hrun, hR'⟩ := step_ok hs E a w Kt hR
          unfold Oper.wp
          rcases hrun with hrun | ⟨hrun, rfl⟩
          · rw [hrun, Oper.upon_value]
            exact hK _ _ _ _ _ h2 hR'
          · rw [hrun, Oper.upon_skip]
            exact hK _ _ _ _ _ h2 hR'
structure Step (P : Program) (ops : Array Oper) (o : Oper) (σ : St) (c : Cl) (e : Eff) : Prop where
  fits : e.fits c σ.lev o.dst
  new : c = .new → newK o.op = true
  go : ∀ τ A K', Agr c (o.looksAt ops) σ τ → K' (some c) (e.app τ o.dst) → DOp P ops A K' o τ
  slot : ∀ l t, (∀ j ∈ o.looksAt ops, (lk σ.T j).purge l t = lk σ.T j) → ∀ l' t' w, c = .mem l' t' w → ¬ (l' = l ∧ t' = t)
  free : ∀ l t, (∀ j ∈ o.looksAt ops, (lk σ.T j).purge l t = lk σ.T j) → (∀ l' t' w, c = .mem l' t' w → (σ.H l' t').purge l t = σ.H l' t') → (c = .new → ¬ (l = σ.lev ∧ o.dst = some t)) → e.free l t
theorem looks_op {ops : Array Oper} {o : Oper} {t : Tmp} (h : Operand.tmp t ∈ o.op.operands.toList) : t ∈ o.looksAt ops := by
  unfold Oper.looksAt
  refine List.mem_append.2 (.inl (List.mem_filterMap.2 ⟨_, h, rfl⟩))
theorem agr_ev {ops : Array Oper} {o : Oper} {σ τ : St} (h : ∀ t ∈ o.looksAt ops, lk τ.T t = lk σ.T t) : ∀ x ∈ o.op.operands.toList, evO τ x = evO σ x := by
  intro x hx
  cases x with
  | tmp t => exact h t (looks_op hx)
  | _ => rfl
theorem free_ev {ops : Array Oper} {o : Oper} {σ : St} {l s : Nat} (h : ∀ t ∈ o.looksAt ops, (lk σ.T t).purge l s = lk σ.T t) : ∀ x ∈ o.op.operands.toList, (evO σ x).purge l s = evO σ x := by
  intro x hx
  cases x with
  | tmp t => exact h t (looks_op hx)
  | const c => exact fr_const c l s
  | global g => rfl
  | func f => rfl
theorem agr_gd {ops : Array Oper} {o : Oper} {σ τ : St} (h : ∀ t ∈ o.looksAt ops, lk τ.T t = lk σ.T t) : gdOf ops τ o = gdOf ops σ o := by
  unfold gdOf
  cases hg : o.guard with
  | none => rfl
  | some p =>
    obtain ⟨g, want⟩ := p
    simp only
    cases hd : (ops[g]?).bind (·.dst) with
    | none => rfl
    | some d =>
      have : d ∈ o.looksAt ops := by
        unfold Oper.looksAt
        refine List.mem_append.2 (.inr ?_)
        rw [hg]
        simp [hd]
      simp only [Option.bind_some, h d this]
theorem agr_evL {σ τ : St} : ∀ {xs : List Operand}, (∀ x ∈ xs, evO τ x = evO σ x) → evL τ xs = evL σ xs
  | [], _ => rfl
  | x :: r, h => by rw [evL, evL, h x (by simp), agr_evL fun y hy => h y (List.mem_cons_of_mem _ hy)]
theorem agr_call {σ τ : St} {op : Op} (h : ∀ x ∈ op.operands.toList, evO τ x = evO σ x) : callD τ op = callD σ op := by
  cases op with
  | call c =>
    obtain ⟨cal, args, ats⟩ := c
    cases cal with
    | value f =>
      have h1 : evO τ f = evO σ f := h f (by simp [Op.operands, Call.operands])
      have h2 : evL τ args.toList = evL σ args.toList := agr_evL fun x hx => h x (by simp [Op.operands, Call.operands]; right; simpa using hx)
      simp only [callD, h1, h2]
    | _ => rfl
  | _ => rfl
theorem DOp_step {P : Program} {ops : Array Oper} {A : Prop} {K : Option Cl → St → Prop} {o : Oper} {σ : St} (h : DOp P ops A K o σ) : A ∨ ∃ c e, Step P ops o σ c e ∧ K (some c) (e.app σ o.dst) := by
  unfold DOp at h
  cases hg : gdOf ops σ o with
  | none => rw [hg] at h; exact h.elim
  | some b =>
    rw [hg] at h
    simp only [aG] at h
    cases b with
    | false =>
      rw [aIf_false] at h
      refine .inr ⟨.pure, pv (.tup []), ⟨rfl, (fun h => by cases h), fun τ A K' hA hK => ?_, fun _ _ _ _ _ _ h => (by cases h), fun _ _ _ _ _ => ⟨rfl, fun u hu => (by cases hu)⟩⟩, h.2⟩
      unfold DOp
      rw [agr_gd hA.2.2.1, hg]
      simp only [aG, aIf_false]
      exact ⟨by rw [hA.1]; exact h.1, hK⟩
    | true =>
      rw [aIf_true] at h
      cases hc : callD σ o.op with
      | some p =>
        obtain ⟨f, args⟩ := p
        rw [hc] at h
        simp only [dC] at h
        obtain ⟨hd, h⟩ := h
        rcases h with ⟨r, h1, h2, h3, h4⟩ | h
        · refine .inr ⟨.pure, pv r, ⟨rfl, (fun h => by cases h), fun τ A K' hA hK => ?_, fun _ _ _ _ _ _ h => (by cases h), fun l t _ _ _ => ⟨AVal.purge_bel (Nat.zero_le _) _ h2, fun u hu => (by cases hu)⟩⟩, h4⟩
          unfold DOp
          rw [agr_gd hA.2.2.1, hg]
          simp only [aG, aIf_true]
          rw [agr_call (agr_ev hA.2.2.1), hc]
          exact ⟨by rw [hA.1]; exact hd, .inl ⟨r, h1, h2, h3, hK⟩⟩
        · exact .inl h.1
      | none =>
        rw [hc] at h
        simp only [dC] at h
        cases hcl : cls P σ o.op with
        | none =>
          rw [hcl] at h
          cases hs : stepOp P σ o with
          | none => rw [hs] at h; exact h.elim
          | some σ' => rw [hs] at h; exact .inl h.1
        | some c =>
          rw [hcl] at h
          cases hs : stepOp P σ o with
          | none => rw [hs] at h; exact h.elim
          | some σ' =>
            rw [hs] at h
            simp only [dS] at h
            unfold stepOp at hs
            cases hd : okDst σ.n o.dst with
            | false => rw [hd] at hs; cases hs
            | true =>
              rw [hd] at hs
              simp only [cond_true] at hs
              rw [ev1_ok hcl] at hs
              obtain ⟨e, he, rfl⟩ := Option.map_eq_some_iff.1 hs
              have hE := ev1_eff (show cls1 P σ.H o.op (opVals σ o.op) = some c from hcl) he
              have hop : ∀ l t, (∀ j ∈ o.looksAt ops, (lk σ.T j).purge l t = lk σ.T j) → ∀ x ∈ opVals σ o.op, x.purge l t = x := fun l t hj x hx => by
                obtain ⟨y, hy, rfl⟩ := List.mem_map.1 hx
                exact free_ev hj y hy
              refine .inr ⟨c, e, ⟨hE.fits, fun hc => cls1_newK (by rw [← hc]; exact hcl), fun τ A K' hA hK => ?_, fun l t hj => hE.slot l t (hop l t hj), fun l t hj hH hn => hE.free l t (hop l t hj) hH hn⟩, h⟩
              have hv : opVals τ o.op = opVals σ o.op := List.map_congr_left (agr_ev hA.2.2.1)
              have hcl' : cls P τ o.op = some c := by
                unfold cls
                rw [hv]
                exact cls1_congr hcl hA.2.2.2
              unfold DOp
              rw [agr_gd hA.2.2.1, hg]
              simp only [aG, aIf_true]
              rw [agr_call (agr_ev hA.2.2.1), hc]
              simp only [dC, hcl', stepOp, hA.1, hd, cond_true]
              rw [ev1_ok hcl', hv, ev1_congr (show cls1 P σ.H o.op (opVals σ o.op) = some c from hcl) hA.2.2.2, hA.2.1, he]
              exact hK
end Go.Fw
