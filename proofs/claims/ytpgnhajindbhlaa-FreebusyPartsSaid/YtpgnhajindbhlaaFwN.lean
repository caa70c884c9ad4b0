/- Calls, regions. -/
import Derived.Test.YtpgnhajindbhlaaFwM
set_option autoImplicit false
namespace Go.Fw
def hasBody (P : Program) (f : FuncId) : Bool :=
  match P.funcs[f]? with
  | some fn => fn.body.isSome && !(fn.name == "runtime.NumGoroutine")
  | none => false
def ownsIn (K : Kt) (H : Hp) (b : Nat) : Prop := ∃ l t, (H l t).own K l t b
/-- What a call does, told abstractly: the arguments are values of levels below lev; objects of these levels may change. -/
def ACalls (P : Program) (f : FuncId) (args : List AVal) (lev : Nat) (H : Hp) (Q : AVal → Hp → Prop) : Prop :=
  hasBody P f = true ∧ ∀ (S0 : Nat → Prop) (w : World) (K : Kt) (vs : List Value), P2 (Rv (badOf S0 K H) K w) args vs → AVal.belL lev args = true → (∀ l t, lev ≤ l → H l t = .dead) →
    HRel ⟨S0, ownsIn K H, badOf S0 K H, K, w⟩ lev H w K →
    Calls P f ⟨vs⟩ w fun e w' => ∃ v r H' K', e = .returned v ∧ Q r H' ∧ HRel ⟨S0, ownsIn K H, badOf S0 K H, K, w⟩ lev H' w' K' ∧ (∀ l t, lev ≤ l → H' l t = .dead) ∧ Rv (badOf S0 K' H') K' w' r v ∧ r.bel lev = true
theorem ACalls.mono {P : Program} {f : FuncId} {args : List AVal} {lev : Nat} {H : Hp} {Q Q' : AVal → Hp → Prop} (h : ACalls P f args lev H Q) (hq : ∀ r H', Q r H' → Q' r H') : ACalls P f args lev H Q' :=
  ⟨h.1, fun S0 w K vs h1 h2 h3 h4 => (h.2 S0 w K vs h1 h2 h3 h4).mono fun e w' ⟨v, r, H', K', a1, a2, a3⟩ => ⟨v, r, H', K', a1, hq _ _ a2, a3⟩⟩
/-- A call of data: nothing that was there changes. -/
def PCalls (P : Program) (f : FuncId) (args : List DVal) (r : AVal) : Prop := ACalls P f (args.map .d) 0 (fun _ _ => .dead) (fun r' _ => r' = r)

/-- A call of data that makes an array for the caller. -/
def FCalls (P : Program) (f : FuncId) (ds : List DVal) (sz : Nat) (xs : List DVal) : Prop :=
  hasBody P f = true ∧ ∀ (S0 : Nat → Prop) (w : World) (vs : List Value), (∀ b, S0 b → b < w.heap.size) → P2 (Rd S0 w) ds vs →
    Calls P f ⟨vs⟩ w fun e w' => ∃ ad cap, e = .returned (.slice ad xs.length cap) ∧ Ch (fun _ => False) w w' ∧ (∀ x ∈ xs, x.cells.length = sz) ∧ xs.length ≤ cap ∧
      ArrAt (fun b => S0 b ∨ ∃ x, ad = some x ∧ b = x.block) w' w' sz xs cap ad ∧ ∀ x, ad = some x → w.heap.size ≤ x.block

mutual
theorem Rv.bel0 {bad : Nat → Prop} {K K' : Kt} {w : World} {m : Nat} (hK : ∀ l t n z, l < m → K l t n = some z → K' l t n = some z) : ∀ {x : AVal} {v : Value}, x.bel m = true → Rv bad K w x v → Rv bad K' w x v
  | .any, _, _, _ => .any
  | .nils, _, _, h => by cases h; exact .nils
  | .d _, _, _, h => by cases h with | d h => exact .d h
  | .cptr _, _, _, h => by cases h with | cptr h1 h2 h3 => exact .cptr h1 h2 h3
  | .ptr l t off, _, hb, h => by
    simp only [AVal.bel, Nat.blt_eq] at hb
    cases h with | ptr h => exact .ptr (hK _ _ _ _ hb h)
  | .ref l t n, _, hb, h => by
    simp only [AVal.bel, Nat.blt_eq] at hb
    cases h with | ref h => exact .ref (hK _ _ _ _ hb h)
  | .elt l t n i j, _, hb, h => by
    simp only [AVal.bel, Nat.blt_eq] at hb
    cases h with | elt h => exact .elt (hK _ _ _ _ hb h)
  | .tup xs, _, hb, h => by
    simp only [AVal.bel] at hb
    cases h with | tup hl h => exact .tup hl (fun j c x hc hx => Rv.bel0L hK xs hb j c x hc (h j c x hc hx))
  | .clo f xs, _, hb, h => by
    simp only [AVal.bel] at hb
    cases h with | clo hl h => exact .clo hl (fun j c x hc hx => Rv.bel0L hK xs hb j c x hc (h j c x hc hx))
theorem Rv.bel0L {bad : Nat → Prop} {K K' : Kt} {w : World} {m : Nat} (hK : ∀ l t n z, l < m → K l t n = some z → K' l t n = some z) : ∀ (xs : List AVal), AVal.belL m xs = true → ∀ (j : Nat) (c : AVal) (v : Value), xs[j]? = some c → Rv bad K w c v → Rv bad K' w c v
  | [], _, j, c, v, hc, _ => by simp at hc
  | x :: r, hb, 0, c, v, hc, h => by
    simp only [AVal.belL, Bool.and_eq_true] at hb
    simp only [List.getElem?_cons_zero, Option.some.injEq] at hc
    subst hc
    exact Rv.bel0 hK hb.1 h
  | x :: r, hb, j + 1, c, v, hc, h => by
    simp only [AVal.belL, Bool.and_eq_true] at hb
    simp only [List.getElem?_cons_succ] at hc
    exact Rv.bel0L hK r hb.2 j c v hc h
end
def scalarL : List DVal → Bool
  | [] => true
  | .v _ :: r => scalarL r
  | _ :: _ => false
mutual
def scalarA : AVal → Bool
  | .d (.v _) => true
  | .d (.agg cs) => scalarL cs
  | .tup xs => scalarAL xs
  | .any => true
  | .nils => true
  | _ => false
def scalarAL : List AVal → Bool
  | [] => true
  | x :: r => scalarA x && scalarAL r
end
theorem scalarL_mem : ∀ {cs : List DVal}, scalarL cs = true → ∀ c ∈ cs, ∃ x, c = .v x
  | [], _, c, h => by simp at h
  | .v x :: r, hs, c, h => by
    rcases List.mem_cons.1 h with h | h
    · exact ⟨x, h⟩
    · exact scalarL_mem (by simpa [scalarL] using hs) c h
  | .list _ :: _, hs, _, _ => by simp [scalarL] at hs
  | .agg _ :: _, hs, _, _ => by simp [scalarL] at hs
mutual
theorem Rv.scalar {bad bad' : Nat → Prop} {K K' : Kt} {w w' : World} : ∀ {x : AVal} {v : Value}, scalarA x = true → Rv bad K w x v → Rv bad' K' w' x v
  | .any, _, _, _ => .any
  | .nils, _, _, h => by cases h; exact .nils
  | .d (.v _), _, _, h => by cases h with | d h => cases h with | v h => exact .d (.v h)
  | .d (.agg cs), _, hs, h => by
    simp only [scalarA] at hs
    cases h with
    | d h =>
      cases h with
      | agg hl h1 h2 =>
        refine .d (.agg hl h1 (fun j c x hc hx => ?_))
        obtain ⟨y, rfl⟩ := scalarL_mem hs c (List.mem_of_getElem? hc)
        have := h2 j _ x hc hx
        cases this with
        | v h => exact .v h
  | .tup xs, _, hs, h => by
    simp only [scalarA] at hs
    cases h with | tup hl h => exact .tup hl (fun j c x hc hx => Rv.scalarL hs j c x hc (h j c x hc hx))
  | .d (.list _), _, hs, _ => by simp [scalarA] at hs
  | .cptr _, _, hs, _ => by simp [scalarA] at hs
  | .ptr _ _ _, _, hs, _ => by simp [scalarA] at hs
  | .ref _ _ _, _, hs, _ => by simp [scalarA] at hs
  | .elt _ _ _ _ _, _, hs, _ => by simp [scalarA] at hs
  | .clo _ _, _, hs, _ => by simp [scalarA] at hs
theorem Rv.scalarL {bad bad' : Nat → Prop} {K K' : Kt} {w w' : World} : ∀ {xs : List AVal}, scalarAL xs = true → ∀ (j : Nat) (c : AVal) (v : Value), xs[j]? = some c → Rv bad K w c v → Rv bad' K' w' c v
  | [], _, j, c, v, hc, _ => by simp at hc
  | x :: r, hb, 0, c, v, hc, h => by
    simp only [scalarAL, Bool.and_eq_true] at hb
    simp only [List.getElem?_cons_zero, Option.some.injEq] at hc
    subst hc
    exact Rv.scalar hb.1 h
  | x :: r, hb, j + 1, c, v, hc, h => by
    simp only [scalarAL, Bool.and_eq_true] at hb
    simp only [List.getElem?_cons_succ] at hc
    exact Rv.scalarL hb.2 j c v hc h
end

/-! ### Operations of a region -/
def gdB : AVal → Option (Option Bool)
  | .d (.v (.bool b)) => some (some b)
  | .tup [] => some none
  | _ => none
def gdW : Option Bool → Bool → Bool
  | some b, w => b == w
  | none, _ => false
def yv : Value → Option Bool
  | .bool b => some b
  | _ => none
theorem gdB_eq {bad : Nat → Prop} {K : Kt} {w : World} {x : AVal} {q : Option Bool} {v : Value} (h : gdB x = some q) (hr : Rv bad K w x v) : yv v = q := by
  unfold gdB at h
  split at h
  · rename_i b
    simp only [Option.some.injEq] at h
    subst h
    obtain rfl := boolOf_eq (b := b) rfl hr
    rfl
  · simp only [Option.some.injEq] at h
    subst h
    cases hr with | tup hl _ => rfl
  · cases h
def gdOf (ops : Array Oper) (σ : St) (o : Oper) : Option Bool :=
  match o.guard with
  | none => some true
  | some (j, want) => (((ops[j]?).bind (·.dst)).bind fun d => gdB (lk σ.T d)).map (gdW · want)
theorem gdOf_eq {ops : Array Oper} {E : Env} {σ : St} {a : Act} {w : World} {K : Kt} {o : Oper} {b : Bool} (hR : Rel E σ a w K) (h : gdOf ops σ o = some b) : Region.wanted o (yielded ops a.tmps) = b := by
  unfold gdOf at h
  unfold Region.wanted
  cases hg : o.guard with
  | none => rw [hg] at h; simp only [Option.some.injEq] at h; rw [← h]
  | some p =>
    obtain ⟨j, want⟩ := p
    rw [hg] at h
    simp only at h ⊢
    obtain ⟨q, hq, rfl⟩ := Option.map_eq_some_iff.1 h
    obtain ⟨d, hd, hq⟩ := Option.bind_eq_some_iff.1 hq
    have e := gdB_eq hq (hR.tm d)
    have hy : yielded ops a.tmps j = q := by
      unfold yielded
      rw [hd]
      simp only [Option.bind_some]
      rw [← e, Array.getD_eq_getD_getElem?]
      cases ht : a.tmps[d]? with
      | none => rfl
      | some u => cases u <;> rfl
    rw [hy]
    cases q with
    | none => rfl
    | some q => cases q <;> cases want <;> rfl
def evL (σ : St) : List Operand → List AVal
  | [] => []
  | x :: r => evO σ x :: evL σ r
theorem evL_eq (σ : St) : ∀ xs, evL σ xs = xs.map (evO σ)
  | [] => rfl
  | x :: r => by rw [evL, evL_eq σ r]; rfl
def callD (σ : St) : Op → Option (FuncId × List AVal)
  | .call { callee := .value f, args, .. } => (match evO σ f with | .clo g caps => some (g, evL σ args.toList ++ caps) | _ => none)
  | _ => none
def callOf (σ : St) (o : Oper) : Option (FuncId × List AVal) := callD σ o.op
/-- Some of the values turned into data. -/
def frzM : List Bool → St → List AVal → Option (List AVal × St)
  | _, σ, [] => some ([], σ)
  | [], σ, xs => some (xs, σ)
  | false :: m, σ, x :: r => (frzM m σ r).map fun q => (x :: q.1, q.2)
  | true :: m, σ, x :: r => (frzV σ x).bind fun p => (frzM m p.2 r).map fun q => (.d p.1 :: q.1, q.2)
theorem frzM_ok {E : Env} {w : World} {K : Kt} {a : Act} : ∀ {m : List Bool} {xs : List AVal} {σ σ' : St} {ys : List AVal}, Rel E σ a w K → frzM m σ xs = some (ys, σ') →
    Frz E w K σ σ' ∧ ∀ vs, P2 (Rv (badOf E.S0 K σ.H) K w) xs vs → ∀ q, AVal.belL q xs = true → P2 (Rv (badOf E.S0 K σ'.H) K w) ys vs ∧ AVal.belL q ys = true
  | m, [], σ, σ', ys, h, hf => by
    have e : frzM m σ [] = some ([], σ) := by cases m with | nil => rfl | cons b r => cases b <;> rfl
    rw [e] at hf
    simp only [Option.some.injEq, Prod.mk.injEq] at hf
    obtain ⟨rfl, rfl⟩ := hf
    exact ⟨Frz.refl _, fun vs hp q hq => ⟨hp, hq⟩⟩
  | [], x :: r, σ, σ', ys, h, hf => by
    simp only [frzM, Option.some.injEq, Prod.mk.injEq] at hf
    obtain ⟨rfl, rfl⟩ := hf
    exact ⟨Frz.refl _, fun vs hp q hq => ⟨hp, hq⟩⟩
  | false :: m, x :: r, σ, σ', ys, h, hf => by
    simp only [frzM] at hf
    obtain ⟨⟨ys1, σ2⟩, h2, he⟩ := Option.map_eq_some_iff.1 hf
    simp only [Prod.mk.injEq] at he
    obtain ⟨rfl, rfl⟩ := he
    obtain ⟨F, G⟩ := frzM_ok h h2
    refine ⟨F, fun vs hp q hq => ?_⟩
    cases vs with
    | nil => have := hp.1; simp at this
    | cons v vs =>
      simp only [AVal.belL, Bool.and_eq_true] at hq ⊢
      obtain ⟨g1, g2⟩ := G vs ⟨by simpa using hp.1, fun j c u hc hu => hp.2 (j + 1) c u (by simpa using hc) (by simpa using hu)⟩ q hq.2
      refine ⟨⟨by simp [g1.1], fun j c u hc hu => ?_⟩, hq.1, g2⟩
      cases j with
      | zero =>
        have := (hp.2 0 x v rfl rfl).mono F.keeps (fun _ _ _ _ hz => hz)
        simp only [List.getElem?_cons_zero, Option.some.injEq] at hc hu
        subst hc hu
        exact this
      | succ j => exact g1.2 j c u (by simpa using hc) (by simpa using hu)
  | true :: m, x :: r, σ, σ', ys, h, hf => by
    simp only [frzM] at hf
    obtain ⟨⟨y, σ1⟩, h1, hf⟩ := Option.bind_eq_some_iff.1 hf
    obtain ⟨⟨ys1, σ2⟩, h2, he⟩ := Option.map_eq_some_iff.1 hf
    simp only [Prod.mk.injEq] at he
    obtain ⟨rfl, rfl⟩ := he
    obtain ⟨F1, G1⟩ := frzV_ok h h1
    obtain ⟨F, G⟩ := frzM_ok (F1.rel a h) h2
    refine ⟨F1.trans F, fun vs hp q hq => ?_⟩
    cases vs with
    | nil => have := hp.1; simp at this
    | cons v vs =>
      simp only [AVal.belL, Bool.and_eq_true] at hq ⊢
      obtain ⟨g1, g2⟩ := G vs ⟨by simpa using hp.1, fun j c u hc hu => (hp.2 (j + 1) c u (by simpa using hc) (by simpa using hu)).mono F1.keeps (fun _ _ _ _ hz => hz)⟩ q hq.2
      refine ⟨⟨by simp [g1.1], fun j c u hc hu => ?_⟩, rfl, g2⟩
      cases j with
      | zero =>
        have := (G1 v (hp.2 0 x v rfl rfl)).mono F.keeps
        simp only [List.getElem?_cons_zero, Option.some.injEq] at hc hu
        subst hc hu
        exact .d this
      | succ j => exact g1.2 j c u (by simpa using hc) (by simpa using hu)
/-- A slice compared with nil: whether it is told is left open where it is empty. -/
def isSlT (P : Program) (t : TypeId) : Bool := match P.underlying t with | some (.slice _) => true | _ => false
def nilB : AVal → Bool → Prop
  | .nils, b => b = true
  | .d (.list xs), b => b = true → xs = []
  | _, _ => False
def canNil : AVal → Bool
  | .nils => true
  | .d (.list _) => true
  | _ => false
def nilTag : Op → Option (Bool × TypeId × Operand)
  | .binOp .eql t x (.const (.slice none 0 0)) _ => some (true, t, x)
  | .binOp .neq t x (.const (.slice none 0 0)) _ => some (false, t, x)
  | _ => none
def nilGo (P : Program) (σ : St) (dst : Option Tmp) (N : St → Prop) : Option (Bool × TypeId × Operand) → Prop
  | some (k, t, x) => isSlT P t = true ∧ okDst σ.n dst = true ∧ canNil (evO σ x) = true ∧ ∀ b, nilB (evO σ x) b → N (σ.put dst (.d (.v (.bool (bif k then b else !b)))))
  | none => False
theorem run_eqIn {P : Program} (w : World) (d : Nat) (t e : TypeId) (a : Option Addr) (l c : Nat) (h : P.underlying t = some (.slice e)) : (Op.equalIn (d + 1) t (.slice a l c) (.slice none 0 0)).run P w = .ok a.isNone w := by
  cases a <;> simp [Op.equalIn, run_underlying h]
theorem run_eqN {P : Program} (w : World) (t e : TypeId) (a : Option Addr) (l c : Nat) (h : P.underlying t = some (.slice e)) : (Op.equal t (.slice a l c) (.slice none 0 0)).run P w = .ok a.isNone w := run_eqIn w 9999 t e a l c h
theorem run_eqlN {P : Program} (w : World) (t e : TypeId) (a : Option Addr) (l c : Nat) (x y : Operand) (h : P.underlying t = some (.slice e)) : (binS .eql t x y (.slice a l c) (.slice none 0 0)).run P w = .ok (.bool a.isNone) w := by
  simp [binS, eqGuard, binOp, run_eqN w t e a l c h]
theorem run_neqN {P : Program} (w : World) (t e : TypeId) (a : Option Addr) (l c : Nat) (x y : Operand) (h : P.underlying t = some (.slice e)) : (binS .neq t x y (.slice a l c) (.slice none 0 0)).run P w = .ok (.bool (!a.isNone)) w := by
  simp [binS, eqGuard, binOp, run_eqN w t e a l c h]
theorem nilB_ok {bad : Nat → Prop} {K : Kt} {w : World} {x : AVal} {v : Value} (h : canNil x = true) (hr : Rv bad K w x v) : ∃ ad l c, v = .slice ad l c ∧ nilB x ad.isNone := by
  cases hr with
  | nils => exact ⟨none, 0, 0, rfl, rfl⟩
  | d hd =>
    cases hd with
    | list hs hc hw h1 h2 ha =>
      rename_i xs ad cap sz b o f
      refine ⟨ad, _, _, rfl, fun hn => ?_⟩
      rcases List.eq_nil_or_concat xs with e | ⟨_, _, e⟩
      · exact e
      · rw [ha (by rw [e]; simp)] at hn; cases hn
    | v _ => simp [canNil] at h
    | agg => simp [canNil] at h
  | _ => simp [canNil] at h
theorem nilX_ok {P : Program} {E : Env} {σ : St} {a : Act} {w : World} {K : Kt} {o : Oper} {N : St → Prop} (hR : Rel E σ a w K) (h : nilGo P σ o.dst N (nilTag o.op)) :
    ∃ b, N (σ.put o.dst (.d (.v (.bool b)))) ∧ (execOp a.eval o).run P w = .ok (.value (.bool b)) w ∧ okDst σ.n o.dst = true := by
  have tyOf : ∀ {t : TypeId}, isSlT P t = true → ∃ e, P.underlying t = some (.slice e) := fun {t} ht => by
    unfold isSlT at ht
    split at ht
    · rename_i e he; exact ⟨e, he⟩
    · cases ht
  cases hx : nilTag o.op with
  | none => rw [hx] at h; exact h.elim
  | some p =>
    obtain ⟨k, t, x⟩ := p
    rw [hx] at h
    obtain ⟨h1, h2, h3, h4⟩ := h
    obtain ⟨e, he⟩ := tyOf h1
    obtain ⟨ad, l, c, hv, hb⟩ := nilB_ok h3 (hR.ev x)
    unfold nilTag at hx
    split at hx
    · rename_i tt xx uu ho
      simp only [Option.some.injEq, Prod.mk.injEq] at hx
      obtain ⟨rfl, rfl, rfl⟩ := hx
      refine ⟨_, h4 _ hb, ?_, h2⟩
      have := run_eqlN w _ e ad l c xx (.const (.slice none 0 0)) he
      have e2 : execOp a.eval o = (binS .eql tt xx (.const (.slice none 0 0)) (a.eval xx) (.slice none 0 0) >>= fun r => pure (.value r)) := by simp only [execOp, ho]; rfl
      rw [e2, hv, Sem.run_bind, this]
      rfl
    · rename_i tt xx uu ho
      simp only [Option.some.injEq, Prod.mk.injEq] at hx
      obtain ⟨rfl, rfl, rfl⟩ := hx
      refine ⟨_, h4 _ hb, ?_, h2⟩
      have := run_neqN w _ e ad l c xx (.const (.slice none 0 0)) he
      have e2 : execOp a.eval o = (binS .neq tt xx (.const (.slice none 0 0)) (a.eval xx) (.slice none 0 0) >>= fun r => pure (.value r)) := by simp only [execOp, ho]; rfl
      rw [e2, hv, Sem.run_bind, this]
      rfl
    · cases hx
/-- nil slices told as the very value nil (b), or left. -/
def nilA : AVal → AVal
  | .nils => .d (.v (.slice none 0 0))
  | x => x
def nilL (b : Bool) (xs : List AVal) : List AVal := bif b then xs.map nilA else xs
theorem nilL_ok {bad : Nat → Prop} {K : Kt} {w : World} {b : Bool} {xs : List AVal} {vs : List Value} (h : P2 (Rv bad K w) xs vs) : P2 (Rv bad K w) (nilL b xs) vs := by
  cases b with
  | false => exact h
  | true =>
    refine ⟨by simpa [nilL] using h.1, fun j c u hc hu => ?_⟩
    simp only [nilL, cond_true, List.getElem?_map] at hc
    obtain ⟨x, hx, rfl⟩ := Option.map_eq_some_iff.1 hc
    have := h.2 j x u hx hu
    cases this with
    | nils => exact .d (.v rfl)
    | any => exact .any
    | d h => exact .d h
    | tup hl h => exact .tup hl h
    | ptr h => exact .ptr h
    | ref h => exact .ref h
    | elt h => exact .elt h
    | cptr h1 h2 h3 => exact .cptr h1 h2 h3
    | clo hl h => exact .clo hl h
theorem nilL_len (b : Bool) (xs : List AVal) : (nilL b xs).length = xs.length := by cases b <;> simp [nilL]
def CallOk (P : Program) (σ : St) (f : FuncId) (args : List AVal) (dst : Option Tmp) (N : St → Prop) : Prop :=
  (∃ ds σ1 r, frzL σ args = some (ds, σ1) ∧ PCalls P f ds r ∧ N ((bif scalarA r then σ else σ1).put dst r)) ∨ (∃ m args' σ1, frzM m σ args = some (args', σ1) ∧ ACalls P f args' (σ1.lev + 1) σ1.H (fun r H' => N (St.put { σ1 with H := H' } dst r))) ∨
    ∃ b d ds σ1 sz xs, dst = some d ∧ frzL σ (nilL b args) = some (ds, σ1) ∧ FCalls P f ds sz xs ∧ N (σ1.alloc d (.arr sz xs) (.ref σ1.lev d xs.length))
noncomputable def aOps (P : Program) (ops : Array Oper) (N : St → Prop) : List Nat → St → Prop
  | [], σ => N σ
  | i :: is, σ =>
    match ops[i]? with
    | none => aOps P ops N is σ
    | some o =>
      match gdOf ops σ o with
      | none => False
      | some false => okDst σ.n o.dst = true ∧ aOps P ops N is (σ.put o.dst (.tup []))
      | some true =>
        match callOf σ o with
        | some (f, args) => okDst σ.n o.dst = true ∧ CallOk P σ f args o.dst (aOps P ops N is)
        | none =>
          match stepOp P σ o with
          | none => nilGo P σ o.dst (aOps P ops N is) (nilTag o.op)
          | some σ' => aOps P ops N is σ'
theorem run_call {P : Program} {E : Env} {σ : St} {a : Act} {w : World} {K : Kt} {o : Oper} {f : FuncId} {args : List AVal} (hR : Rel E σ a w K) (h : callOf σ o = some (f, args)) (hb : hasBody P f = true) :
    ∃ vs, (execOp a.eval o).run P w = .ok (.enter f ⟨vs⟩) w ∧ P2 (Rv (badOf E.S0 K σ.H) K w) args vs ∧ AVal.belL (σ.lev + 1) args = true := by
  unfold callOf callD at h
  split at h
  · rename_i x xs ts ho
    rw [evL_eq] at h
    have hx := hR.ev x
    have hxb := hR.evb x
    generalize hv : a.eval x = v at hx
    generalize evO σ x = q at hx hxb h
    cases hx with
    | clo hl hr =>
      rename_i g caps cvs
      simp only [Option.some.injEq, Prod.mk.injEq] at h
      obtain ⟨rfl, rfl⟩ := h
      refine ⟨xs.toList.map a.eval ++ cvs, ?_, (P2.evs hR xs.toList).append ⟨hl, hr⟩, ?_⟩
      · unfold hasBody at hb
        cases hf : P.funcs[g]? with
        | none => rw [hf] at hb; cases hb
        | some fn =>
          rw [hf] at hb
          simp only [Bool.and_eq_true, Bool.not_eq_true'] at hb
          obtain ⟨h1, h2⟩ := hb
          have h3 : fn.body.isNone = false := by cases hbd : fn.body <;> simp_all
          have h4 : (fn.name == "runtime.NumGoroutine") = false := h2
          simp only [execOp, ho, resolve, hv, Deferred.ofValue, invoke]
          simp [callFunc, hf, h3, h4]
          have h5 : fn.name ≠ "runtime.NumGoroutine" := by simpa using h4
          simp [h5]
          cases hbd : fn.body with
          | none => rw [hbd] at h1; simp at h1
          | some c => simp
      · rw [AVal.belL_iff]
        intro y hy
        rcases List.mem_append.1 hy with hy | hy
        · obtain ⟨z, _, rfl⟩ := List.mem_map.1 hy
          exact hR.evb z
        · simp only [AVal.bel] at hxb
          exact (AVal.belL_iff _ _).1 hxb y hy
    | _ => cases h
  · cases h
theorem HRel.dead {S0 : Nat → Prop} {w : World} {K : Kt} (hl : ∀ b, S0 b → b < w.heap.size) : HRel ⟨S0, ownsIn K (fun _ _ => .dead), badOf S0 K (fun _ _ => .dead), K, w⟩ 0 (fun _ _ => .dead) w K :=
  ⟨fun _ _ => trivial, fun _ _ _ _ _ h => h.elim, fun _ _ _ h => h.elim, hl, Ch.refl _ w, fun _ _ _ h => h.elim, fun _ _ _ => rfl, fun _ _ => rfl, Keeps.rfl', fun _ _ _ _ h => absurd h (Nat.not_lt_zero _)⟩
theorem badOf_size {E : Env} {lev : Nat} {H : Hp} {w : World} {K : Kt} (h : HRel E lev H w K) (b : Nat) (hb : badOf E.S0 K H b) : b < w.heap.size := by
  rcases hb with hb | ⟨l, t, hb⟩
  · exact h.low b hb
  · exact h.size hb
theorem Rel.world {E : Env} {σ : St} {a : Act} {w w' : World} {K : Kt} (h : Rel E σ a w K) (hch : Ch (fun _ => False) w w') : Rel E σ a w' K :=
  ⟨h.size, h.defs, fun t => (h.tm t).mono (fun b hb hn => ⟨hn, hch.block b hb id⟩) (fun _ _ _ _ hz => hz), h.tb, h.hr.world hch⟩
theorem callOk_sound {P : Program} {E : Env} {σ : St} {a : Act} {w : World} {K : Kt} {f : FuncId} {args : List AVal} {dst : Option Tmp} {N : St → Prop} {vs : List Value} (hR : Rel E σ a w K) (hd : okDst σ.n dst = true)
    (hp : P2 (Rv (badOf E.S0 K σ.H) K w) args vs) (hbel : AVal.belL (σ.lev + 1) args = true) (h : CallOk P σ f args dst N) :
    Calls P f ⟨vs⟩ w fun e w' => ∃ v σ' K', e = .returned v ∧ N σ' ∧ Rel E σ' (a.put dst v) w' K' := by
  rcases h with ⟨ds, σ1, r, hf, hc, hN⟩ | ⟨m, args', σ1, hfm, hc⟩ | ⟨b, d, ds, σ1, sz, xs, rfl, hf, hc, hN⟩
  · obtain ⟨F, hlen, G⟩ := frzL_ok hR hf
    have hR1 := F.rel a hR
    refine (hc.2 (badOf E.S0 K σ1.H) w (fun _ _ _ => none) vs ?_ ?_ (fun _ _ _ => rfl) (HRel.dead (badOf_size hR1.hr))).mono ?_
    · refine ⟨by rw [List.length_map, hlen, hp.1], fun j c x hc hx => ?_⟩
      rw [List.getElem?_map] at hc
      obtain ⟨y, hy, rfl⟩ := Option.map_eq_some_iff.1 hc
      have hj : j < args.length := by rw [← hlen]; exact (List.getElem?_eq_some_iff.1 hy).1
      refine .d ?_
      have := G j _ y x (List.getElem?_eq_getElem hj) hy (hp.2 j _ x (List.getElem?_eq_getElem hj) hx)
      exact this.mono (fun b hb hn => ⟨fun e => hn (by rcases e with e | ⟨_, _, e⟩; exact e; exact e.elim), rfl⟩)
    · rw [AVal.belL_iff]
      intro y hy
      obtain ⟨z, _, rfl⟩ := List.mem_map.1 hy
      rfl
    · rintro e w' ⟨v, r', H', K', rfl, rfl, hh, hdead, hrv, hrb⟩
      have hdead' : H' = fun _ _ => .dead := by funext l t; exact hdead l t (Nat.zero_le _)
      subst hdead'
      have hch : Ch (fun _ => False) w w' := hh.ext.mono (fun b ⟨_, _, e⟩ => e.elim)
      have hrv1 : Rv (badOf E.S0 K σ1.H) K w' r' v := by
        have h0 := Rv.bel0 (K' := K) (m := 0) (fun l t n z hl => absurd hl (Nat.not_lt_zero _)) hrb hrv
        exact h0.mono (fun b hb hn => ⟨fun e => hn (.inl e), rfl⟩) (fun _ _ _ _ hz => hz)
      cases hs : scalarA r' with
      | true =>
        rw [hs] at hN
        exact ⟨v, _, K, rfl, hN, (hR.world hch).put_pure hd (Rv.scalar hs hrv) (AVal.bel_mono (Nat.zero_le _) _ hrb)⟩
      | false =>
        rw [hs] at hN
        exact ⟨v, _, K, rfl, hN, (hR1.world hch).put_pure (by rw [F.n]; exact hd) hrv1 (AVal.bel_mono (Nat.zero_le _) _ hrb)⟩
  · obtain ⟨F, G⟩ := frzM_ok hR hfm
    have hd : okDst σ1.n dst = true := by rw [F.n]; exact hd
    have hbel : AVal.belL (σ1.lev + 1) args = true := by rw [F.lev]; exact hbel
    obtain ⟨hp, hbel⟩ := G vs hp _ hbel
    have hR := F.rel a hR
    clear F G hfm
    have hpre : HRel ⟨E.S0, ownsIn K σ1.H, badOf E.S0 K σ1.H, K, w⟩ (σ1.lev + 1) σ1.H w K :=
      ⟨hR.hr.ob, hR.hr.inj, hR.hr.sep, hR.hr.low, Ch.refl _ w, fun l t b hb => .inl ⟨l, t, hb⟩, fun l t hl => hR.hr.top l t (by omega), hR.hr.hb, Keeps.rfl', fun _ _ _ _ _ h => h⟩
    refine (hc.2 E.S0 w K vs hp hbel (fun l t hl => hR.hr.top l t (by omega)) hpre).mono ?_
    rintro e w' ⟨v, r', H', K', rfl, hN, hh, hdead, hrv, hrb⟩
    have hr' : HRel E σ1.lev H' w' K' := ⟨hh.ob, hh.inj, hh.sep, hh.low, hR.hr.ext.trans hh.ext (fun x ⟨l, t, hx⟩ => hR.hr.new l t x hx), fun l t b hb => by
        rcases hh.new l t b hb with ⟨l2, t2, e⟩ | e
        · exact hR.hr.new l2 t2 b e
        · exact .inr (Nat.le_trans hR.hr.ext.size e), fun l t hl => hdead l t (by omega), hh.hb, hR.hr.kp.trans hh.kp hR.hr.ext.size, fun l t n z hl hz => hh.k0 l t n z (by omega) (hR.hr.k0 l t n z hl hz)⟩
    have hK2 : ∀ {x : AVal} {u : Value}, x.bel (σ1.lev + 1) = true → Rv (badOf E.S0 K σ1.H) K w x u → Rv (badOf E.S0 K' H') K' w' x u := fun hb hx => by
      have h0 := Rv.bel0 (K' := K') (m := σ1.lev + 1) hh.k0 hb hx
      exact h0.mono hh.kp (fun _ _ _ _ hz => hz)
    refine ⟨v, _, K', rfl, hN, ?_⟩
    have hR2 : Rel E { σ1 with H := H' } a w' K' := ⟨hR.size, hR.defs, fun t => hK2 (hR.tb t) (hR.tm t), hR.tb, hr'⟩
    exact hR2.put_pure hd hrv hrb
  · obtain ⟨F, hlen, G⟩ := frzL_ok hR hf
    rw [nilL_len] at hlen
    have hp' := nilL_ok (b := b) hp
    have hR1 := F.rel a hR
    refine (hc.2 (badOf E.S0 K σ1.H) w vs (badOf_size hR1.hr) ⟨by rw [hlen, hp.1], fun j c x hc hx => ?_⟩).mono ?_
    · have hj : j < (nilL b args).length := by rw [nilL_len, ← hlen]; exact (List.getElem?_eq_some_iff.1 hc).1
      exact G j _ c x (List.getElem?_eq_getElem hj) hc (hp'.2 j _ x (List.getElem?_eq_getElem hj) hx)
    · rintro e w' ⟨ad, cap, rfl, hch, h1, h2, h3, h4⟩
      obtain ⟨K', hK'⟩ := hR1.arr2 (by rw [F.n]; exact hd) hch h1 h2 h3 h4
      exact ⟨_, _, K', rfl, hN, hK'⟩
theorem aOps_sound {P : Program} {ops : Array Oper} {E : Env} {N : St → Prop} {Q : Exit → Act → World → Prop} (hN : ∀ σ a w K, N σ → Rel E σ a w K → Q .normal a w) : ∀ (l : List Nat) (σ : St) (a : Act) (w : World) (K : Kt), aOps P ops N l σ → Rel E σ a w K → wpOps P ops Q l a w
  | [], σ, a, w, K, h, hR => hN σ a w K h hR
  | i :: is, σ, a, w, K, h, hR => by
    simp only [aOps] at h
    simp only [wpOps]
    cases ho : ops[i]? with
    | none => rw [ho] at h; exact aOps_sound hN is σ a w K h hR
    | some o =>
      rw [ho] at h
      simp only at h ⊢
      cases hg : gdOf ops σ o with
      | none => rw [hg] at h; exact h.elim
      | some b =>
        rw [hg] at h
        have hw := gdOf_eq hR hg
        cases b with
        | false =>
          simp only at h
          rw [hw, if_neg (by simp)]
          exact aOps_sound hN is _ _ w K h.2 (hR.put_pure h.1 (.tup (xs := []) (vs := []) rfl (by simp)) rfl)
        | true =>
          simp only at h
          rw [hw, if_pos rfl]
          left
          cases hc : callOf σ o with
          | some p =>
            obtain ⟨f, args⟩ := p
            rw [hc] at h
            simp only at h
            have hb : hasBody P f = true := by
              rcases h.2 with ⟨_, _, _, _, h, _⟩ | ⟨_, _, _, _, h⟩ | ⟨_, _, _, _, _, _, _, _, h, _⟩
              · exact h.1
              · exact h.1
              · exact h.1
            obtain ⟨vs, hrun, hp, hbel⟩ := run_call hR hc hb
            unfold Oper.wp
            rw [hrun]
            simp only [Oper.upon_enter]
            refine (callOk_sound hR h.1 hp hbel h.2).mono ?_
            rintro e w' ⟨v, σ', K', rfl, hN', hR'⟩
            exact aOps_sound hN is σ' _ w' K' hN' hR'
          | none =>
            rw [hc] at h
            simp only at h
            cases hs : stepOp P σ o with
            | none =>
              rw [hs] at h
              obtain ⟨b, hb, hrun, hd⟩ := nilX_ok hR h
              unfold Oper.wp
              rw [hrun, Oper.upon_value]
              exact aOps_sound hN is _ _ w K hb (hR.put_pure hd (.d (.v rfl)) rfl)
            | some σ' =>
            rw [hs] at h
            simp only at h
            obtain ⟨v, w', K', hrun, hR'⟩ := step_ok hs E a w K hR
            unfold Oper.wp
            rcases hrun with hrun | ⟨hrun, rfl⟩
            · rw [hrun, Oper.upon_value]
              exact aOps_sound hN is σ' _ w' K' h hR'
            · rw [hrun, Oper.upon_skip]
              exact aOps_sound hN is σ' _ w' K' h hR'
end Go.Fw
