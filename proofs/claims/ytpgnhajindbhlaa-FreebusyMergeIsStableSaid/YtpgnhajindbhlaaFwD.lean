/- Single operations on abstract states: those that read no memory. -/
import Derived.Test.YtpgnhajindbhlaaFwC
import Derived.Laws.BitsLemmas
set_option autoImplicit false
namespace Go.Fw
/-- A computation that yields the same in every world, and leaves it alone. -/
noncomputable def pr {α : Type} (P : Program) (s : Sem α) : Option α := by
  classical
  exact if h : ∃ r, ∀ w, s.run P w = .ok r w then some h.choose else none
theorem pr_run {α : Type} (P : Program) (s : Sem α) (a : α) (w : World) (h : pr P s = some a) : s.run P w = .ok a w := by
  unfold pr at h
  split at h
  · rename_i hh
    simp only [Option.some.injEq] at h
    rw [← h]
    exact hh.choose_spec w
  · cases h
theorem pr_of {α : Type} {P : Program} {s : Sem α} {r : α} (h : ∀ w, s.run P w = .ok r w) : pr P s = some r := by
  unfold pr
  have hh : ∃ r, ∀ w, s.run P w = .ok r w := ⟨r, h⟩
  rw [dif_pos hh]
  have e := hh.choose_spec default
  rw [h default] at e
  simp only [Result.ok.injEq, and_true] at e
  rw [← e]

def constD : Value → DVal
  | .slice none 0 _ => .list []
  | x => .v x
def ofConst : Value → AVal
  | .slice none 0 0 => .nils
  | .agg cs => bif cs.all (·.oneCell') then .d (.agg (cs.toList.map constD)) else .any
  | .tuple _ => .any
  | x => .d (.v x)
theorem Rd.const {bad : Nat → Prop} {w : World} {x : Value} (h : x.oneCell' = true) : Rd bad w (constD x) x := by
  unfold constD
  split
  · rename_i cap
    exact .list (xs := []) (sz := 0) (b := 0) (o := 0) (f := fun _ => default) (by simp) (Nat.zero_le _) (by simp) (by simp) (by simp) (by simp)
  · exact .v h
theorem Rv.const {bad : Nat → Prop} {K : Kt} {w : World} (x : Value) : Rv bad K w (ofConst x) x := by
  unfold ofConst
  split
  · exact .nils
  · rename_i cs
    cases h : cs.all (·.oneCell') with
    | false => exact .any
    | true =>
      refine .d (Rd.agg (vs := cs.toList) (by simp) (fun j x hx => ?_) (fun j c x hc hx => ?_))
      · exact (Array.all_eq_true_iff_forall_mem.1 h) x (by simpa using List.mem_of_getElem? hx)
      · rw [List.getElem?_map, hx] at hc
        simp only [Option.map_some, Option.some.injEq] at hc
        subst hc
        exact Rd.const ((Array.all_eq_true_iff_forall_mem.1 h) x (by simpa using List.mem_of_getElem? hx))
  · exact .any
  · rename_i h1 h2 h3
    refine .d (.v ?_)
    cases x <;> first | rfl | (exact (h2 _ rfl).elim) | (exact (h3 _ rfl).elim)
theorem bel_const (m : Nat) (x : Value) : (ofConst x).bel m = true := by
  unfold ofConst
  split <;> (try simp only [AVal.bel])
  rename_i cs
  cases cs.all (·.oneCell') <;> simp [AVal.bel]

def evO (σ : St) : Operand → AVal
  | .tmp t => lk σ.T t
  | .const c => ofConst c
  | .global _ => .any
  | .func f => .clo f []
theorem Rel.ev {E : Env} {σ : St} {a : Act} {w : World} {K : Kt} (h : Rel E σ a w K) (x : Operand) : Rv (badOf E.S0 K σ.H) K w (evO σ x) (a.eval x) := by
  cases x with
  | tmp t => exact h.tm t
  | const c => exact Rv.const c
  | global g => exact .any
  | func f => exact .clo (xs := []) (vs := []) rfl (by simp)
theorem Rel.evb {E : Env} {σ : St} {a : Act} {w : World} {K : Kt} (h : Rel E σ a w K) (x : Operand) : (evO σ x).bel (σ.lev + 1) = true := by
  cases x with
  | tmp t => exact h.tb t
  | const c => exact bel_const _ c
  | global g => rfl
  | func f => rfl

/-- The concrete value, where the abstract one leaves no choice. -/
def toVc : List DVal → Option (List Value)
  | [] => some []
  | .v x :: r => (toVc r).map (x :: ·)
  | _ :: _ => none
def toV : AVal → Option Value
  | .d (.v x) => some x
  | .d (.agg cs) => (toVc cs).map fun vs => .agg ⟨vs⟩
  | .nils => some (.slice none 0 0)
  | _ => none
theorem toVc_eq : ∀ {bad : Nat → Prop} {w : World} {cs : List DVal} {us vs : List Value}, toVc cs = some us → vs.length = cs.length → (∀ (j : Nat) (c : DVal) (x : Value), cs[j]? = some c → vs[j]? = some x → Rd bad w c x) → vs = us
  | _, _, [], us, vs, h, hl, _ => by
    simp only [toVc, Option.some.injEq] at h
    subst h
    exact List.length_eq_zero_iff.1 (by simpa using hl)
  | bad, w, .v x :: r, us, vs, h, hl, hr => by
    simp only [toVc, Option.map_eq_some_iff] at h
    obtain ⟨us', h', rfl⟩ := h
    cases vs with
    | nil => simp at hl
    | cons y ys =>
      have h0 := hr 0 (.v x) y rfl rfl
      cases h0
      exact congrArg _ (toVc_eq (bad := bad) (w := w) h' (by simpa using hl) (fun j c z hc hz => hr (j + 1) c z (by simpa using hc) (by simpa using hz)))
  | _, _, .list _ :: _, us, vs, h, hl, _ => by simp [toVc] at h
  | _, _, .agg _ :: _, us, vs, h, hl, _ => by simp [toVc] at h
theorem toV_eq {bad : Nat → Prop} {K : Kt} {w : World} {x : AVal} {u v : Value} (h : toV x = some u) (hr : Rv bad K w x v) : v = u := by
  cases hr with
  | any => simp [toV] at h
  | nils => simp only [toV, Option.some.injEq] at h; exact h
  | d hd =>
    cases hd with
    | v _ => simp only [toV, Option.some.injEq] at h; exact h
    | agg hl h1 h2 =>
      simp only [toV, Option.map_eq_some_iff] at h
      obtain ⟨us, hu, rfl⟩ := h
      rw [toVc_eq hu hl h2]
    | list => simp [toV] at h
  | _ => simp [toV] at h

/-- One operation, with what it does to the abstract state. -/
def OpOk (P : Program) (o : Oper) (σ σ' : St) : Prop :=
  ∀ (E : Env) (a : Act) (w : World) (K : Kt), Rel E σ a w K → ∃ (v : Value) (w' : World) (K' : Kt),
    ((execOp a.eval o).run P w = .ok (.value v) w' ∨ ((execOp a.eval o).run P w = .ok .skip w' ∧ v = undef)) ∧ Rel E σ' (a.put o.dst v) w' K'

/-- Operations on scalars. -/
def scal1 (σ : St) (dst : Option Tmp) (x : AVal) (f : Value → Option Value) : Option St :=
  (toV x).bind fun u => (f u).map fun r => σ.put dst (ofConst r)
def scal2 (σ : St) (dst : Option Tmp) (x y : AVal) (f : Value → Value → Option Value) : Option St :=
  (toV x).bind fun u => (toV y).bind fun v => (f u v).map fun r => σ.put dst (ofConst r)
theorem scal1_ok {P : Program} {σ σ' : St} {o : Oper} {x : Operand} {f : Value → Sem Value} (hd : okDst σ.n o.dst = true) (h : scal1 σ o.dst (evO σ x) (fun u => pr P (f u)) = some σ')
    (he : ∀ ρ : Operand → Value, execOp ρ o = (do pure (.value (← f (ρ x))))) : OpOk P o σ σ' := by
  intro E a w K hR
  unfold scal1 at h
  obtain ⟨u, hu, h⟩ := Option.bind_eq_some_iff.1 h
  obtain ⟨r, hr, rfl⟩ := Option.map_eq_some_iff.1 h
  have e := toV_eq hu (hR.ev x)
  refine ⟨r, w, K, .inl ?_, hR.put_pure hd (Rv.const r) (bel_const _ r)⟩
  rw [he, e]
  simp [pr_run P _ r w hr]
theorem scal2_ok {P : Program} {σ σ' : St} {o : Oper} {x y : Operand} {f : Value → Value → Sem Value} (hd : okDst σ.n o.dst = true) (h : scal2 σ o.dst (evO σ x) (evO σ y) (fun u v => pr P (f u v)) = some σ')
    (he : ∀ ρ : Operand → Value, execOp ρ o = (do pure (.value (← f (ρ x) (ρ y))))) : OpOk P o σ σ' := by
  intro E a w K hR
  unfold scal2 at h
  obtain ⟨u, hu, h⟩ := Option.bind_eq_some_iff.1 h
  obtain ⟨v, hv, h⟩ := Option.bind_eq_some_iff.1 h
  obtain ⟨r, hr, rfl⟩ := Option.map_eq_some_iff.1 h
  have e := toV_eq hu (hR.ev x)
  have e2 := toV_eq hv (hR.ev y)
  refine ⟨r, w, K, .inl ?_, hR.put_pure hd (Rv.const r) (bel_const _ r)⟩
  rw [he, e, e2]
  simp [pr_run P _ r w hr]

/-- A pure value is moved. -/
theorem move_ok {P : Program} {σ : St} {o : Oper} {x : Operand} (hd : okDst σ.n o.dst = true) (he : ∀ ρ : Operand → Value, execOp ρ o = pure (.value (ρ x))) : OpOk P o σ (σ.put o.dst (evO σ x)) := by
  intro E a w K hR
  exact ⟨a.eval x, w, K, .inl (by rw [he]; rfl), hR.put_pure hd (hR.ev x) (hR.evb x)⟩

def boolOf : AVal → Option Bool
  | .d (.v (.bool b)) => some b
  | _ => none
theorem boolOf_eq {bad : Nat → Prop} {K : Kt} {w : World} {x : AVal} {b : Bool} {v : Value} (h : boolOf x = some b) (hr : Rv bad K w x v) : v = .bool b := by
  cases hr with
  | d hd =>
    cases hd with
    | v _ =>
      unfold boolOf at h
      split at h
      · rename_i e
        simp only [Option.some.injEq] at h
        simp only [AVal.d.injEq, DVal.v.injEq] at e
        rw [e, h]
      · cases h
    | _ => simp [boolOf] at h
  | _ => simp [boolOf] at h
def stPick (σ : St) (dst : Option Tmp) (c x y : Operand) : Option St :=
  (boolOf (evO σ c)).map fun b => σ.put dst (bif b then evO σ x else evO σ y)
theorem pick_ok {P : Program} {σ σ' : St} {o : Oper} {c x y : Operand} (ho : o.op = .pick c x y) (hd : okDst σ.n o.dst = true) (h : stPick σ o.dst c x y = some σ') : OpOk P o σ σ' := by
  intro E a w K hR
  obtain ⟨b, hb, rfl⟩ := Option.map_eq_some_iff.1 h
  have e := boolOf_eq hb (hR.ev c)
  refine ⟨if b then a.eval x else a.eval y, w, K, .inl ?_, hR.put_pure hd ?_ ?_⟩
  · simp [execOp, ho, e, asBool]
  · cases b
    · exact hR.ev y
    · exact hR.ev x
  · cases b
    · exact hR.evb y
    · exact hR.evb x

def stExtract (σ : St) (dst : Option Tmp) (x : Operand) (i : Nat) : Option St :=
  match evO σ x with
  | .tup xs => xs[i]?.map fun y => σ.put dst y
  | _ => none
theorem extract_ok {P : Program} {σ σ' : St} {o : Oper} {x : Operand} {i : Nat} (ho : o.op = .extract x i) (hd : okDst σ.n o.dst = true) (h : stExtract σ o.dst x i = some σ') : OpOk P o σ σ' := by
  intro E a w K hR
  unfold stExtract at h
  have hx := hR.ev x
  have hb := hR.evb x
  cases hxe : evO σ x with
  | tup xs =>
    rw [hxe] at h hx hb
    obtain ⟨y, hy, rfl⟩ := Option.map_eq_some_iff.1 h
    generalize hv : a.eval x = v at hx
    cases hx with
    | tup hl hr =>
      rename_i vs
      have hlt : i < xs.length := (List.getElem?_eq_some_iff.1 hy).1
      have hlt' : i < vs.length := by omega
      refine ⟨vs[i], w, K, .inl ?_, hR.put_pure hd (hr i y _ hy (List.getElem?_eq_getElem hlt')) ?_⟩
      · simp [execOp, ho, hv, Instr.extract, hlt']
      · simp only [AVal.bel] at hb
        exact (AVal.belL_iff _ xs).1 hb y (List.mem_of_getElem? hy)
  | _ => rw [hxe] at h; cases h

def stFunc (σ : St) (dst : Option Tmp) (f : FuncId) (caps : Array Operand) : St := σ.put dst (.clo f (caps.toList.map (evO σ)))
theorem func_ok {P : Program} {σ : St} {o : Oper} {f : FuncId} {caps : Array Operand} (ho : o.op = .makeFunc (.func f) #[] caps) (hd : okDst σ.n o.dst = true) : OpOk P o σ (stFunc σ o.dst f caps) := by
  intro E a w K hR
  refine ⟨.func (.func f) #[] ⟨caps.toList.map a.eval⟩, w, K, .inl ?_, hR.put_pure hd ?_ ?_⟩
  · simp [execOp, ho, Instr.makeFunc]
    apply Array.ext'
    simp
  · refine .clo (by simp) (fun j c x hc hx => ?_)
    rw [List.getElem?_map] at hc hx
    obtain ⟨y, hy, rfl⟩ := Option.map_eq_some_iff.1 hc
    rw [hy] at hx
    simp only [Option.map_some, Option.some.injEq] at hx
    subst hx
    exact hR.ev y
  · simp only [AVal.bel]
    refine (AVal.belL_iff _ _).2 (fun x hx => ?_)
    obtain ⟨y, _, rfl⟩ := List.mem_map.1 hx
    exact hR.evb y

def stNil (σ : St) (dst : Option Tmp) (x : Operand) : Option St :=
  match evO σ x with
  | .ptr l t off => some (σ.put dst (.ptr l t off))
  | .elt l t n i j => some (σ.put dst (.elt l t n i j))
  | .cptr cs => some (σ.put dst (.cptr cs))
  | _ => none
theorem nil_ok {P : Program} {σ σ' : St} {o : Oper} {x : Operand} (ho : o.op = .nilCheck x) (hd : okDst σ.n o.dst = true) (h : stNil σ o.dst x = some σ') : OpOk P o σ σ' := by
  intro E a w K hR
  have hx := hR.ev x
  have hb := hR.evb x
  unfold stNil at h
  generalize hv : a.eval x = v at hx
  generalize hq : evO σ x = q at hx hb h
  cases hx with
  | ptr hk =>
    simp only [Option.some.injEq] at h
    subst h
    exact ⟨_, w, K, .inl (by simp [execOp, ho, hv]), hR.put_pure hd (.ptr hk) hb⟩
  | elt hk =>
    simp only [Option.some.injEq] at h
    subst h
    exact ⟨_, w, K, .inl (by simp [execOp, ho, hv]), hR.put_pure hd (.elt hk) hb⟩
  | cptr h1 h2 h3 =>
    simp only [Option.some.injEq] at h
    subst h
    exact ⟨_, w, K, .inl (by simp [execOp, ho, hv]), hR.put_pure hd (.cptr h1 h2 h3) hb⟩
  | _ => cases h

/-- The size of a type, and whether it takes several cells side by side. -/
def szOf (P : Program) (t : TypeId) : Option Nat := (P.info? t).map (·.size)
def aggOf (P : Program) (t : TypeId) : Option Bool := (P.underlying t).map fun | .struct _ | .array _ _ => true | _ => false
theorem run_sizeOf {P : Program} {t : TypeId} {n : Nat} (h : szOf P t = some n) (w : World) : (sizeOf t).run P w = .ok n w := by
  unfold szOf at h
  obtain ⟨i, hi, rfl⟩ := Option.map_eq_some_iff.1 h
  simp [sizeOf, typeInfo, hi]
theorem run_isAgg {P : Program} {t : TypeId} {b : Bool} (h : aggOf P t = some b) (w : World) : (isAgg t).run P w = .ok b w := by
  unfold aggOf at h
  obtain ⟨d, hd, rfl⟩ := Option.map_eq_some_iff.1 h
  simp [isAgg, underlying, hd]
  cases d <;> rfl
def fldOf (P : Program) (s : TypeId) (f : Nat) : Option (Nat × TypeId) :=
  match P.underlying s with
  | some (.struct fs) => fs[f]?.map fun x => (x.offset, x.type)
  | _ => none
end Go.Fw
