/- Regions as lists, in the form that simp works off. -/
import Derived.Test.YtpgnhajindbhlaaFwO
import Derived.Attr
import Derived.Laws.StructEq
set_option autoImplicit false
namespace Go.Fw
/-- One of two ways; simp looks at the test alone. -/
def aIf (b : Bool) (X Y : Prop) : Prop := if b = true then X else Y
@[congr] theorem aIf_congr {b b' : Bool} {X Y : Prop} (h : b = b') : aIf b X Y = aIf b' X Y := by rw [h]
@[go_sem] theorem aIf_true (X Y : Prop) : aIf true X Y = X := by simp [aIf]
@[go_sem] theorem aIf_false (X Y : Prop) : aIf false X Y = Y := by simp [aIf]
@[go_sem] theorem aIf_not (b : Bool) (X Y : Prop) : aIf (!b) X Y = aIf b Y X := by cases b <;> rfl
theorem aIf_intro {b : Bool} {X Y : Prop} (h : b = true → X) (k : b = false → Y) : aIf b X Y := by
  cases b
  · rw [aIf_false]; exact k rfl
  · rw [aIf_true]; exact h rfl
def aG (f : Bool → Prop) : Option Bool → Prop
  | none => False
  | some b => f b
def aStep (R : Prop) (N : St → Prop) : Option St → Prop
  | none => R
  | some σ => N σ
@[congr] theorem aG_congr {f : Bool → Prop} {o o' : Option Bool} (h : o = o') : aG f o = aG f o' := by rw [h]
@[congr] theorem aStep_congr {R : Prop} {N : St → Prop} {o o' : Option St} (h : o = o') : aStep R N o = aStep R N o' := by rw [h]
noncomputable def aC (P : Program) (σ : St) (o : Oper) (N : St → Prop) : Option (FuncId × List AVal) → Prop
  | some (f, args) => okDst σ.n o.dst = true ∧ CallOk P σ f args o.dst N
  | none => aStep (nilGo P σ o.dst N (nilTag o.op)) N (stepOp P σ o)
@[congr] theorem aC_congr {P : Program} {σ : St} {o : Oper} {N : St → Prop} {c c' : Option (FuncId × List AVal)} (h : c = c') : aC P σ o N c = aC P σ o N c' := by rw [h]
@[congr] theorem callOk_congr {P : Program} {σ σ' : St} {f : FuncId} {args args' : List AVal} {dst : Option Tmp} {N : St → Prop} (h : σ = σ') (k : args = args') : CallOk P σ f args dst N = CallOk P σ' f args' dst N := by rw [h, k]
noncomputable def aOpsL (P : Program) (ops : Array Oper) (N : St → Prop) : List Oper → St → Prop
  | [], σ => N σ
  | o :: is, σ => aG (fun b => aIf b (aC P σ o (aOpsL P ops N is) (callD σ o.op)) (okDst σ.n o.dst = true ∧ aOpsL P ops N is (σ.put o.dst (.tup [])))) (gdOf ops σ o)
theorem aOps_of_L {P : Program} {ops : Array Oper} {N : St → Prop} : ∀ (l : List Oper) (k : Nat) (σ : St), (∀ j, ops[k + j]? = l[j]?) → aOpsL P ops N l σ → aOps P ops N (List.range' k l.length) σ
  | [], k, σ, _, h => h
  | o :: is, k, σ, hl, h => by
    have h0 := hl 0
    simp only [Nat.add_zero, List.getElem?_cons_zero] at h0
    have hl' : ∀ j, ops[k + 1 + j]? = is[j]? := fun j => by
      have := hl (j + 1)
      rwa [List.getElem?_cons_succ, show k + (j + 1) = k + 1 + j by omega] at this
    simp only [List.length_cons, List.range'_succ, aOps, h0]
    simp only [aOpsL] at h
    cases hg : gdOf ops σ o with
    | none => rw [hg] at h; exact h
    | some b =>
      rw [hg] at h
      simp only [aG] at h
      cases b with
      | false =>
        rw [aIf_false] at h
        exact ⟨h.1, aOps_of_L is (k + 1) _ hl' h.2⟩
      | true =>
        rw [aIf_true] at h
        simp only [callOf]
        cases hc : callD σ o.op with
        | some p =>
          obtain ⟨f, args⟩ := p
          rw [hc] at h
          simp only [aC] at h ⊢
          refine ⟨h.1, ?_⟩
          rcases h.2 with ⟨ds, σ1, r, h1, h2, h3⟩ | ⟨m, args', σ1, h1, h2⟩ | ⟨bb, d, ds, σ1, sz, xs, h0, h1, h2, h3⟩
          · exact .inl ⟨ds, σ1, r, h1, h2, aOps_of_L is (k + 1) _ hl' h3⟩
          · exact .inr (.inl ⟨m, args', σ1, h1, h2.mono fun r H' h3 => aOps_of_L is (k + 1) _ hl' h3⟩)
          · exact .inr (.inr ⟨bb, d, ds, σ1, sz, xs, h0, h1, h2, aOps_of_L is (k + 1) _ hl' h3⟩)
        | none =>
          rw [hc] at h
          simp only [aC] at h ⊢
          cases hs : stepOp P σ o with
          | none =>
            rw [hs] at h
            simp only [aStep] at h ⊢
            cases hx : nilTag o.op with
            | none => rw [hx] at h; exact h.elim
            | some p =>
              obtain ⟨k', t', x'⟩ := p
              rw [hx] at h
              exact ⟨h.1, h.2.1, h.2.2.1, fun b hb => aOps_of_L is (k + 1) _ hl' (h.2.2.2 b hb)⟩
          | some σ' => rw [hs] at h; exact aOps_of_L is (k + 1) _ hl' h
theorem awp_reg {P : Program} {Q : Exit → St → Prop} {σ : St} {id : Nat} {ops : Array Oper} (h : aOpsL P ops (Q .normal) ops.toList σ) : awp P (.region id ops false) Q σ := by
  refine awp_region ?_
  have := aOps_of_L (P := P) (ops := ops) (N := Q .normal) ops.toList 0 σ (fun j => by simp) h
  rwa [← List.range_eq_range', Array.length_toList] at this
/-- A call of data in a region. -/
theorem callOk_data {P : Program} {σ : St} {f : FuncId} {args : List AVal} {dst : Option Tmp} {N : St → Prop} {ds : List DVal} {σ1 : St} {r : AVal} (hc : PCalls P f ds r) (hf : frzL σ args = some (ds, σ1)) (h : N ((bif scalarA r then σ else σ1).put dst r)) :
    CallOk P σ f args dst N := .inl ⟨ds, σ1, r, hf, hc, h⟩
theorem callOk_raw {P : Program} {σ : St} {f : FuncId} {args : List AVal} {dst : Option Tmp} {N : St → Prop} {Q : AVal → Hp → Prop} (hc : ACalls P f args (σ.lev + 1) σ.H Q) (h : ∀ r H', Q r H' → N (St.put { σ with H := H' } dst r)) :
    CallOk P σ f args dst N := .inr (.inl ⟨[], args, σ, by cases args <;> rfl, hc.mono h⟩)
theorem callOk_frz {P : Program} {σ : St} {f : FuncId} {args : List AVal} {dst : Option Tmp} {N : St → Prop} {args' : List AVal} {σ1 : St} {Q : AVal → Hp → Prop} (m : List Bool) (hf : frzM m σ args = some (args', σ1)) (hc : ACalls P f args' (σ1.lev + 1) σ1.H Q) (h : ∀ r H', Q r H' → N (St.put { σ1 with H := H' } dst r)) :
    CallOk P σ f args dst N := .inr (.inl ⟨m, args', σ1, hf, hc.mono h⟩)
theorem callOk_new {P : Program} {σ : St} {f : FuncId} {args : List AVal} {d : Nat} {N : St → Prop} {ds : List DVal} {σ1 : St} {sz : Nat} {xs : List DVal} (hc : FCalls P f ds sz xs) (hf : frzL σ args = some (ds, σ1)) (h : N (σ1.alloc d (.arr sz xs) (.ref σ1.lev d xs.length))) :
    CallOk P σ f args (some d) N := .inr (.inr ⟨false, d, ds, σ1, sz, xs, rfl, hf, hc, h⟩)
theorem callOk_newN {P : Program} {σ : St} {f : FuncId} {args : List AVal} {d : Nat} {N : St → Prop} {ds : List DVal} {σ1 : St} {sz : Nat} {xs : List DVal} (hc : FCalls P f ds sz xs) (hf : frzL σ (args.map nilA) = some (ds, σ1)) (h : N (σ1.alloc d (.arr sz xs) (.ref σ1.lev d xs.length))) :
    CallOk P σ f args (some d) N := .inr (.inr ⟨true, d, ds, σ1, sz, xs, rfl, hf, hc, h⟩)
@[go_sem] theorem nilA_nils : nilA .nils = .d (.v (.slice none 0 0)) := rfl
@[go_sem] theorem nilA_d (x : DVal) : nilA (.d x) = .d x := rfl
@[go_sem] theorem nilA_ref (l t n : Nat) : nilA (.ref l t n) = .ref l t n := rfl

/-! ### Values of scalar operations -/
/-- Equality as Bools that simp takes as they are. -/
def ieq (a b : Int) : Bool := decide (a = b)
def seqB (s u : ByteArray) : Bool := decide (s = u)
def beqB (c d : Bool) : Bool := c == d
@[go_sem] theorem ieq_self (a : Int) : ieq a a = true := by simp [ieq]
@[go_sem] theorem ieq_lit (m n : Nat) : ieq (no_index (OfNat.ofNat m : Int)) (no_index (OfNat.ofNat n)) = (m == n) := by
  have : ((OfNat.ofNat m : Int) = OfNat.ofNat n) ↔ m = n := Int.ofNat_inj
  simp only [ieq, this]; rfl
@[go_sem] theorem seqB_self (s : ByteArray) : seqB s s = true := by simp [seqB]
@[go_sem] theorem beqB_lit (c : Bool) : beqB c true = c := by cases c <;> rfl
@[go_sem] theorem beqB_lit' (c : Bool) : beqB c false = !c := by cases c <;> rfl
@[go_sem] theorem beqB_self (c : Bool) : beqB c c = true := by cases c <;> rfl
section
variable (P : Program) (t : TypeId) (x y : Operand) (k : IntKind) (a b : Int)
@[go_sem] theorem binV_add : binV P .add t x y (.int k a) (.int k b) = some (.int k (k.wrap (a + b))) := pr_of fun w => by simp [binS, eqGuard, binOp, Op.intArith]
@[go_sem] theorem binV_sub : binV P .sub t x y (.int k a) (.int k b) = some (.int k (k.wrap (a - b))) := pr_of fun w => by simp [binS, eqGuard, binOp, Op.intArith]
@[go_sem] theorem binV_mul : binV P .mul t x y (.int k a) (.int k b) = some (.int k (k.wrap (a * b))) := pr_of fun w => by simp [binS, eqGuard, binOp, Op.intArith]
@[go_sem] theorem binV_eql : binV P .eql t x y (.int k a) (.int k b) = some (.bool (ieq a b)) := pr_of fun w => by simp [binS, eqGuard, binOp, Op.intCmp, ieq]; rfl
@[go_sem] theorem binV_neq : binV P .neq t x y (.int k a) (.int k b) = some (.bool !ieq a b) := pr_of fun w => by simp [binS, eqGuard, binOp, Op.intCmp, ieq, bne]; rfl
@[go_sem] theorem binV_lss : binV P .lss t x y (.int k a) (.int k b) = some (.bool (decide (a < b))) := pr_of fun w => by simp [binS, eqGuard, binOp, Op.intCmp]
@[go_sem] theorem binV_leq : binV P .leq t x y (.int k a) (.int k b) = some (.bool (decide (a ≤ b))) := pr_of fun w => by simp [binS, eqGuard, binOp, Op.intCmp]
@[go_sem] theorem binV_gtr : binV P .gtr t x y (.int k a) (.int k b) = some (.bool (decide (b < a))) := pr_of fun w => by simp [binS, eqGuard, binOp, Op.intCmp]
@[go_sem] theorem binV_geq : binV P .geq t x y (.int k a) (.int k b) = some (.bool (decide (b ≤ a))) := pr_of fun w => by simp [binS, eqGuard, binOp, Op.intCmp]
@[go_sem] theorem unV_not (c : Bool) : unV P .not (.bool c) = some (.bool !c) := pr_of fun w => by simp [Op.unary]
@[go_sem] theorem unV_neg : unV P .neg (.int k a) = some (.int k (k.wrap (0 - a))) := pr_of fun w => by simp [Op.unary, Op.intArith]
variable (s u : ByteArray)
theorem toList_beq : (s.toList == u.toList) = seqB s u := by
  rw [seqB, Bool.eq_iff_iff, beq_iff_eq, decide_eq_true_eq, ByteArray.toList_eq, ByteArray.toList_eq]
  constructor
  · intro h
    cases s; cases u
    congr 1
    exact Array.ext' h
  · rintro rfl; rfl
@[go_sem] theorem binV_seql : binV P .eql t x y (.string s) (.string u) = some (.bool (seqB s u)) := pr_of fun w => by
  rw [← toList_beq]; simp [binS, eqGuard, binOp, Op.stringOp]
@[go_sem] theorem binV_sneq : binV P .neq t x y (.string s) (.string u) = some (.bool (!seqB s u)) := pr_of fun w => by
  rw [← toList_beq]; simp [binS, eqGuard, binOp, Op.stringOp]
theorem binV_sadd (h : s.size + u.size ≤ 9223372036854775807) : binV P .add t x y (.string s) (.string u) = some (.string (s ++ u)) := pr_of fun w => by
  have h2 : IntKind.i64.max = 9223372036854775807 := by rfl
  simp only [binS, eqGuard, binOp, Op.stringOp, h2]
  simp
  omega
theorem binV_beql (ht : P.underlying t = some .bool) (c d : Bool) : binV P .eql t x y (.bool c) (.bool d) = some (.bool (beqB c d)) := pr_of fun w => by
  have e : Op.maxDepth = 9999 + 1 := rfl
  simp [binS, eqGuard, binOp, Op.equal, e, run_equalIn_bool' w 9999 t c d ht, beqB]
theorem binV_bneq (ht : P.underlying t = some .bool) (c d : Bool) : binV P .neq t x y (.bool c) (.bool d) = some (.bool (!beqB c d)) := pr_of fun w => by
  have e : Op.maxDepth = 9999 + 1 := rfl
  simp [binS, eqGuard, binOp, Op.equal, e, run_equalIn_bool' w 9999 t c d ht, beqB]
end
end Go.Fw
