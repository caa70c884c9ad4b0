/- What simp works off: the equations of the abstract steps. -/
import Derived.Test.YtpgnhajindbhlaaFwP
set_option autoImplicit false
namespace Go.Fw
@[go_sem] theorem nbeq (a b : Nat) : Nat.beq a b = (a == b) := by
  cases h : Nat.beq a b
  · have : ¬ a = b := fun e => by rw [e] at h; simp at h
    simp [this]
  · simp [Nat.eq_of_beq_eq_true h]
@[go_sem] theorem nblt (a b : Nat) : Nat.blt a b = decide (a < b) := by
  cases h : Nat.blt a b
  · have : ¬ a < b := fun e => by rw [← Nat.blt_eq, h] at e; cases e
    simp [this]
  · rw [Nat.blt_eq] at h; simp [h]
@[go_sem] theorem nble (a b : Nat) : Nat.ble a b = decide (a ≤ b) := by
  cases h : Nat.ble a b
  · have : ¬ a ≤ b := fun e => by rw [← Nat.ble_eq, h] at e; cases e
    simp [this]
  · rw [Nat.ble_eq] at h; simp [h]
@[go_sem] theorem Hp.set_app (H : Hp) (l t : Nat) (o : AObj) (l' t' : Nat) : (H.set l t o) l' t' = bif l' == l && t' == t then o else H l' t' := rfl
@[go_sem] theorem Hp.alloc_app (H : Hp) (l t : Nat) (o : AObj) (l' t' : Nat) : (H.alloc l t o) l' t' = bif l' == l then (bif t' == t then o else (H l' t').purge l t) else H l' t' := rfl
def tyS (P : Program) (e : TypeId) : Option (Nat × Nat × Value) := (P.info? e).bind fun i => i.zero.map fun z => (i.size, i.bytes, z)
def appOk' (P : Program) (u : TypeId) (sz by_ : Nat) (z : Value) (n : Nat) (ys : List DVal) : Bool :=
  (z.cells.size == sz) && notInt P u && allLen sz ys && (decide (n * by_ ≤ 140737488355328) || (decide (n * by_ ≤ 211106232532992) && decide (by_ ≤ 1048576))) && decide (n ≤ 9223372036854775807)
abbrev Ty3 := Nat × Nat × Value
def stApp (P : Program) (σ : St) (d : Nat) (u : TypeId) (x : AVal) (ys : List DVal) (sz by_ : Nat) (z : Value) : Option St :=
  match x with
  | .nils => bif appOk' P u sz by_ z ys.length ys then some (σ.alloc d (.arr sz ys) (.ref σ.lev d ys.length)) else none
  | .ref l s k =>
    match σ.H l s with
    | .arr sz' xs => bif appOk' P u sz by_ z (xs.length + ys.length) ys && (k == xs.length) && (sz' == sz) && decide (l ≤ σ.lev) then
        some (St.put { σ with H := σ.H.set l s (.arr sz' (xs ++ ys)) } (some d) (.ref l s (xs.length + ys.length))) else none
    | _ => none
  | _ => none
@[go_sem] theorem stAppend_eq (P : Program) (σ : St) (d : Nat) (t u : TypeId) (x y : AVal) :
    stAppend P σ d t u x y = (elemOf' P t).bind fun e => (tyS P e).bind fun p => (srcL σ y).bind fun ys => stApp P σ d u x ys p.1 p.2.1 p.2.2 := by
  unfold stAppend
  cases elemOf' P t with
  | none => rfl
  | some e =>
    simp only [Option.bind_some]
    unfold tyS
    cases hi : P.info? e with
    | none => rfl
    | some i =>
      simp only [Option.bind_some]
      cases hz : i.zero with
      | none =>
        have e1 : ∀ n ys, appOk P u i n ys = false := fun n ys => by unfold appOk; rw [hz]; rfl
        simp only [e1, Option.map_none, Option.bind_none, cond_false, Bool.false_and]
        cases srcL σ y with
        | none => rfl
        | some ys =>
          simp only [Option.bind_some]
          cases x <;> try rfl
          rename_i l s k
          simp only
          generalize σ.H l s = q
          cases q <;> rfl
      | some z =>
        have e1 : ∀ n ys, appOk P u i n ys = appOk' P u i.size i.bytes z n ys := fun n ys => by
          unfold appOk appOk'
          rw [hz]
          simp only [Option.any_some, nble, nbeq]
        simp only [Option.map_some, Option.bind_some, e1, nble, nbeq]
        cases srcL σ y with
        | none => rfl
        | some ys =>
          simp only [Option.bind_some, stApp]
          try rfl
@[go_sem] theorem stBuildSlice_eq (P : Program) (σ : St) (d : Nat) (t : TypeId) (len : Nat) (parts : Array (Nat × Operand)) :
    stBuildSlice P σ d t len parts = (elemOf' P t).bind fun e => (tyS P e).bind fun p => (frzL σ (parts.toList.map fun p => evO σ p.2)).bind fun q =>
      bif p.2.2.cells.toList.all (·.oneCell') && (p.2.2.cells.size == p.1) && decide (0 < p.1) && decide (len * p.1 ≤ 16777216) && (zipI parts.toList q.1).all (fun r => decide (r.1 < len) && (r.2.cells.length == p.1)) then
        some (q.2.alloc d (.arr p.1 (setAll (List.replicate len (zeroD p.2.2)) (zipI parts.toList q.1))) (.ref q.2.lev d len)) else none := by
  unfold stBuildSlice
  cases elemOf' P t with
  | none => rfl
  | some e =>
    simp only [Option.bind_some]
    unfold tyS
    cases hi : P.info? e with
    | none => rfl
    | some i =>
      simp only [Option.bind_some]
      cases hz : i.zero with
      | none => rfl
      | some z => simp only [Option.map_some, Option.bind_some, nble, nblt, nbeq]
@[go_sem] theorem stMakeSlice_eq (P : Program) (σ : St) (d : Nat) (t : TypeId) (l c : AVal) :
    stMakeSlice P σ d t l c = (elemOf' P t).bind fun e => (tyS P e).bind fun p => (intOfA l).bind fun n => (intOfA c).bind fun m =>
      bif p.2.2.cells.toList.all (·.oneCell') && (p.2.2.cells.size == p.1) && decide (0 < p.1) && decide (0 ≤ n) && decide (n ≤ m) && decide ((p.2.1 : Int) * m ≤ 140737488355328) && decide (m ≤ 140737488355328) then
        some (σ.alloc d (.arr p.1 (List.replicate n.toNat (zeroD p.2.2))) (.ref σ.lev d n.toNat)) else none := by
  unfold stMakeSlice
  cases elemOf' P t with
  | none => rfl
  | some e =>
    simp only [Option.bind_some]
    unfold tyS
    cases hi : P.info? e with
    | none => rfl
    | some i =>
      simp only [Option.bind_some]
      cases hz : i.zero with
      | none => rfl
      | some z => simp only [Option.map_some, Option.bind_some, nblt, nbeq]
@[go_sem] theorem zeroC_eq (P : Program) (t : TypeId) : zeroC P t = (tyS P t).map fun p => p.2.2.cells.toList := by
  unfold zeroC tyS
  cases P.info? t with
  | none => rfl
  | some i => simp only [Option.bind_some]; cases i.zero <;> rfl
@[go_sem] theorem beq_true' (b : Bool) : (b == true) = b := by cases b <;> rfl
@[go_sem] theorem beq_false' (b : Bool) : (b == false) = !b := by cases b <;> rfl
theorem ite_true_bool (b : Bool) (x y : Prop) : (if b = true then x else y) = ((b = true → x) ∧ (b = false → y)) := by cases b <;> simp
/-- An operation behind a guard. -/
noncomputable def aGo (P : Program) (ops : Array Oper) (N : St → Prop) (o : Oper) (is : List Oper) (σ : St) (b : Bool) : Prop := aIf b (aC P σ o (aOpsL P ops N is) (callD σ o.op)) (okDst σ.n o.dst = true ∧ aOpsL P ops N is (σ.put o.dst (.tup [])))
section
variable (P : Program) (ops : Array Oper) (N : St → Prop) (o : Oper) (is : List Oper) (σ : St)
@[go_sem] theorem aOpsL_nil : aOpsL P ops N [] σ = N σ := rfl
@[go_sem] theorem aOpsL_cons : aOpsL P ops N (o :: is) σ = aG (aGo P ops N o is σ) (gdOf ops σ o) := rfl
@[go_sem] theorem aGo_true : aGo P ops N o is σ true = aC P σ o (aOpsL P ops N is) (callD σ o.op) := aIf_true _ _
@[go_sem] theorem aGo_false : aGo P ops N o is σ false = (okDst σ.n o.dst = true ∧ aOpsL P ops N is (σ.put o.dst (.tup []))) := aIf_false _ _
variable {P ops N o is σ}
theorem aGo_split {b : Bool} (h : b = true → aGo P ops N o is σ true) (k : b = false → aGo P ops N o is σ false) : aGo P ops N o is σ b := by
  cases b
  · exact k rfl
  · exact h rfl
theorem aGo_splitN {b : Bool} (h : b = true → aGo P ops N o is σ false) (k : b = false → aGo P ops N o is σ true) : aGo P ops N o is σ (!b) := by
  cases b
  · exact k rfl
  · exact h rfl
end
section
variable (P : Program) (σ : St) (dst : Option Tmp) (ty : TypeId)
@[go_sem] theorem callD_assign (x : Operand) : callD σ (.assign x) = none := rfl
@[go_sem] theorem stepD_assign (x : Operand) : stepD P σ dst ty (.assign x) = bif isNilS x then onDst dst (fun d => stNilSlice P σ d ty) else some (σ.put dst (evO σ x)) := rfl
@[go_sem] theorem callD_move (x : Operand) : callD σ (.move x) = none := rfl
@[go_sem] theorem stepD_move (x : Operand) : stepD P σ dst ty (.move x) = some (σ.put dst (evO σ x)) := rfl
@[go_sem] theorem callD_pick (c x y : Operand) : callD σ (.pick c x y) = none := rfl
@[go_sem] theorem stepD_pick (c x y : Operand) : stepD P σ dst ty (.pick c x y) = stPick σ dst c x y := rfl
@[go_sem] theorem callD_alloc (t : TypeId) : callD σ (.alloc t) = none := rfl
@[go_sem] theorem stepD_alloc (t : TypeId) : stepD P σ dst ty (.alloc t) = onDst dst (fun d => stAlloc P σ d t) := rfl
@[go_sem] theorem callD_box (t : TypeId) (x : Operand) : callD σ (.box t x) = none := rfl
@[go_sem] theorem stepD_box (t : TypeId) (x : Operand) : stepD P σ dst ty (.box t x) = onDst dst (fun d => stBox σ d (evO σ x)) := rfl
@[go_sem] theorem callD_build (t : TypeId) (ps : Array (Nat × Operand)) : callD σ (.build t ps) = none := rfl
@[go_sem] theorem stepD_build (t : TypeId) (ps : Array (Nat × Operand)) : stepD P σ dst ty (.build t ps) = stBuild P σ dst t ps := rfl
@[go_sem] theorem callD_buildSlice (t : TypeId) (n : Nat) (ps : Array (Nat × Operand)) : callD σ (.buildSlice t n ps) = none := rfl
@[go_sem] theorem stepD_buildSlice (t : TypeId) (n : Nat) (ps : Array (Nat × Operand)) : stepD P σ dst ty (.buildSlice t n ps) = onDst dst (fun d => stBuildSlice P σ d t n ps) := rfl
@[go_sem] theorem callD_load (t : TypeId) (x : Operand) : callD σ (.load t x) = none := rfl
@[go_sem] theorem stepD_load (t : TypeId) (x : Operand) : stepD P σ dst ty (.load t x) = stLoad P σ dst t (evO σ x) := rfl
@[go_sem] theorem callD_store (t : TypeId) (x y : Operand) : callD σ (.store t x y) = none := rfl
@[go_sem] theorem stepD_store (t : TypeId) (x y : Operand) : stepD P σ dst ty (.store t x y) = stStore P σ dst t (evO σ x) (evO σ y) := rfl
@[go_sem] theorem callD_nilCheck (x : Operand) : callD σ (.nilCheck x) = none := rfl
@[go_sem] theorem stepD_nilCheck (x : Operand) : stepD P σ dst ty (.nilCheck x) = stNil σ dst x := rfl
@[go_sem] theorem callD_binOp (op : BinOp) (t : TypeId) (x y : Operand) (u : TypeId) : callD σ (.binOp op t x y u) = none := rfl
@[go_sem] theorem stepD_binOp (op : BinOp) (t : TypeId) (x y : Operand) (u : TypeId) : stepD P σ dst ty (.binOp op t x y u) = scal2 σ dst (evO σ x) (evO σ y) (binV P op t x y) := rfl
@[go_sem] theorem callD_unOp (op : UnOp) (t : TypeId) (x : Operand) : callD σ (.unOp op t x) = none := rfl
@[go_sem] theorem stepD_unOp (op : UnOp) (t : TypeId) (x : Operand) : stepD P σ dst ty (.unOp op t x) = scal1 σ dst (evO σ x) (unV P op) := rfl
@[go_sem] theorem callD_convert (s t : TypeId) (x : Operand) : callD σ (.convert s t x) = none := rfl
@[go_sem] theorem stepD_convert (s t : TypeId) (x : Operand) : stepD P σ dst ty (.convert s t x) = stConv P σ dst s t x := rfl
@[go_sem] theorem callD_makeFunc (f : Fn) (first caps : Array Operand) : callD σ (.makeFunc f first caps) = none := rfl
@[go_sem] theorem callD_makeSlice (t : TypeId) (l c : Operand) : callD σ (.makeSlice t l c) = none := rfl
@[go_sem] theorem stepD_makeSlice (t : TypeId) (l c : Operand) : stepD P σ dst ty (.makeSlice t l c) = onDst dst (fun d => stMakeSlice P σ d t (evO σ l) (evO σ c)) := rfl
@[go_sem] theorem callD_slice (t : TypeId) (x : Operand) (lo hi m : Option Operand) : callD σ (.slice t x lo hi m) = none := rfl
@[go_sem] theorem callD_fieldAddr (s : TypeId) (x : Operand) (f : Nat) : callD σ (.fieldAddr s x f) = none := rfl
@[go_sem] theorem stepD_fieldAddr (s : TypeId) (x : Operand) (f : Nat) : stepD P σ dst ty (.fieldAddr s x f) = stFieldA P σ dst s f (evO σ x) := rfl
@[go_sem] theorem callD_field (s : TypeId) (x : Operand) (f : Nat) : callD σ (.field s x f) = none := rfl
@[go_sem] theorem stepD_field (s : TypeId) (x : Operand) (f : Nat) : stepD P σ dst ty (.field s x f) = stField P σ dst s f (evO σ x) := rfl
@[go_sem] theorem callD_indexAddr (t : TypeId) (x i : Operand) : callD σ (.indexAddr t x i) = none := rfl
@[go_sem] theorem stepD_indexAddr (t : TypeId) (x i : Operand) : stepD P σ dst ty (.indexAddr t x i) = stIndexA P σ dst t (evO σ x) (evO σ i) := rfl
@[go_sem] theorem callD_index (t : TypeId) (x i : Operand) : callD σ (.index t x i) = none := rfl
@[go_sem] theorem stepD_index (t : TypeId) (x i : Operand) : stepD P σ dst ty (.index t x i) = scal2 σ dst (evO σ x) (evO σ i) (indexV P t) := rfl
@[go_sem] theorem callD_extract (x : Operand) (i : Nat) : callD σ (.extract x i) = none := rfl
@[go_sem] theorem stepD_extract (x : Operand) (i : Nat) : stepD P σ dst ty (.extract x i) = stExtract σ dst x i := rfl
@[go_sem] theorem stepD_makeFunc (f : FuncId) (first caps : Array Operand) : stepD P σ dst ty (.makeFunc (.func f) first caps) = bif first.toList.isEmpty then some (stFunc σ dst f caps) else none := rfl
@[go_sem] theorem stepD_slice (t : TypeId) (x : Operand) (lo hi : Option Operand) : stepD P σ dst ty (.slice t x lo hi none) = bif isStr P t then stSliceS P σ dst t (evO σ x) lo hi else stSliceL P σ dst t (evO σ x) lo hi := rfl
@[go_sem] theorem stepD_callB (b : Builtin) (args : Array Operand) (ts : Array TypeId) : stepD P σ dst ty (.call { callee := .builtin b, args := args, argTypes := ts }) = stCallB P σ dst ty b args.toList ts.toList := rfl
@[go_sem] theorem callD_callB (b : Builtin) (args : Array Operand) (ts : Array TypeId) : callD σ (.call { callee := .builtin b, args := args, argTypes := ts }) = none := rfl
def callV (args : List AVal) : AVal → Option (FuncId × List AVal)
  | .clo g caps => some (g, args ++ caps)
  | _ => none
@[go_sem] theorem callD_call (f : Operand) (args : Array Operand) (ts : Array TypeId) : callD σ (.call { callee := .value f, args := args, argTypes := ts }) = callV (evL σ args.toList) (evO σ f) := rfl
@[go_sem] theorem callV_clo (args : List AVal) (g : FuncId) (caps : List AVal) : callV args (.clo g caps) = some (g, args ++ caps) := rfl
@[go_sem] theorem evO_tmp (t : Nat) : evO σ (.tmp t) = lk σ.T t := rfl
@[go_sem] theorem evO_const (c : Value) : evO σ (.const c) = ofConst c := rfl
@[go_sem] theorem evO_func (f : FuncId) : evO σ (.func f) = .clo f [] := rfl
@[go_sem] theorem aG_some (f : Bool → Prop) (b : Bool) : aG f (some b) = f b := rfl
@[go_sem] theorem aStep_some (R : Prop) (N : St → Prop) : aStep R N (some σ) = N σ := rfl
@[go_sem] theorem aStep_none (R : Prop) (N : St → Prop) : aStep R N none = R := rfl
@[go_sem] theorem nilTag_eql (t u : TypeId) (x : Operand) : nilTag (.binOp .eql t x (.const (.slice none 0 0)) u) = some (true, t, x) := rfl
@[go_sem] theorem nilTag_neq (t u : TypeId) (x : Operand) : nilTag (.binOp .neq t x (.const (.slice none 0 0)) u) = some (false, t, x) := rfl
@[go_sem] theorem nilGo_some (dst : Option Tmp) (N : St → Prop) (k : Bool) (t : TypeId) (x : Operand) : nilGo P σ dst N (some (k, t, x)) = (isSlT P t = true ∧ okDst σ.n dst = true ∧ canNil (evO σ x) = true ∧ ∀ b, nilB (evO σ x) b → N (σ.put dst (.d (.v (.bool (bif k then b else !b)))))) := rfl
@[go_sem] theorem canNil_list (xs : List DVal) : canNil (.d (.list xs)) = true := rfl
@[go_sem] theorem nilB_list (xs : List DVal) (b : Bool) : nilB (.d (.list xs)) b = (b = true → xs = []) := rfl
@[go_sem] theorem aC_none (o : Oper) (N : St → Prop) : aC P σ o N none = aStep (nilGo P σ o.dst N (nilTag o.op)) N (stepOp P σ o) := rfl
@[go_sem] theorem aC_some (o : Oper) (N : St → Prop) (f : FuncId) (args : List AVal) : aC P σ o N (some (f, args)) = (okDst σ.n o.dst = true ∧ CallOk P σ f args o.dst N) := rfl
def gdG (ops : Array Oper) (σ : St) : Option (Nat × Bool) → Option Bool
  | none => some true
  | some (j, want) => (((ops[j]?).bind (·.dst)).bind fun d => gdB (lk σ.T d)).map (gdW · want)
@[go_sem] theorem gdOf_eq' (ops : Array Oper) (o : Oper) : gdOf ops σ o = gdG ops σ o.guard := by unfold gdOf gdG; rcases o.guard with _ | ⟨j, want⟩ <;> rfl
@[go_sem] theorem gdB_bool (b : Bool) : gdB (.d (.v (.bool b))) = some (some b) := rfl
@[go_sem] theorem gdB_undef : gdB (.tup []) = some none := rfl
@[go_sem] theorem gdW_some (b w : Bool) : gdW (some b) w = (b == w) := rfl
@[go_sem] theorem gdW_none (w : Bool) : gdW none w = false := rfl
@[go_sem] theorem gdG_none (ops : Array Oper) : gdG ops σ none = some true := rfl
@[go_sem] theorem gdG_some (ops : Array Oper) (j : Nat) (want : Bool) : gdG ops σ (some (j, want)) = (((ops[j]?).bind (·.dst)).bind fun d => gdB (lk σ.T d)).map (gdW · want) := rfl
@[go_sem] theorem okDst_some (n d : Nat) : okDst n (some d) = decide (d < n) := nblt d n
@[go_sem] theorem okDst_none (n : Nat) : okDst n none = true := rfl
@[go_sem] theorem onDst_some' (d : Nat) (f : Nat → Option St) : onDst (some d) f = f d := rfl
@[go_sem] theorem isNilS_tmp (t : Nat) : isNilS (.tmp t) = false := rfl
@[go_sem] theorem isNilS_func (f : FuncId) : isNilS (.func f) = false := rfl
@[go_sem] theorem isNilS_nil  : isNilS (.const (.slice none 0 0)) = true := rfl
@[go_sem] theorem isNilS_int (k : IntKind) (z : Int) : isNilS (.const (.int k z)) = false := rfl
@[go_sem] theorem isNilS_bool (b : Bool) : isNilS (.const (.bool b)) = false := rfl
@[go_sem] theorem isNilS_str (s : ByteArray) : isNilS (.const (.string s)) = false := rfl
@[go_sem] theorem isNilS_agg (cs : Array Value) : isNilS (.const (.agg cs)) = false := rfl
@[go_sem] theorem isNilS_nilFunc  : isNilS (.const .nilFunc) = false := rfl
@[go_sem] theorem isNilS_nilIface  : isNilS (.const .nilIface) = false := rfl
@[go_sem] theorem isNilS_ptr (a : Option Addr) : isNilS (.const (.pointer a)) = false := rfl
@[go_sem] theorem isNilS_map (a : Option Nat) : isNilS (.const (.map a)) = false := rfl
@[go_sem] theorem isNilS_tuple (cs : Array Value) : isNilS (.const (.tuple cs)) = false := rfl
@[go_sem] theorem ofConst_int (k : IntKind) (z : Int) : ofConst (.int k z) = .d (.v (.int k z)) := rfl
@[go_sem] theorem ofConst_bool (b : Bool) : ofConst (.bool b) = .d (.v (.bool b)) := rfl
@[go_sem] theorem ofConst_str (s : ByteArray) : ofConst (.string s) = .d (.v (.string s)) := rfl
@[go_sem] theorem ofConst_nil  : ofConst (.slice none 0 0) = .nils := rfl
@[go_sem] theorem ofConst_agg (cs : Array Value) : ofConst (.agg cs) = bif cs.all (·.oneCell') then .d (.agg (cs.toList.map constD)) else .any := rfl
@[go_sem] theorem ofConst_nilFunc  : ofConst (.nilFunc) = .d (.v .nilFunc) := rfl
@[go_sem] theorem ofConst_nilIface  : ofConst (.nilIface) = .d (.v .nilIface) := rfl
@[go_sem] theorem ofConst_ptr (a : Option Addr) : ofConst (.pointer a) = .d (.v (.pointer a)) := rfl
@[go_sem] theorem ofConst_map (a : Option Nat) : ofConst (.map a) = .d (.v (.map a)) := rfl
@[go_sem] theorem constD_int (k : IntKind) (z : Int) : constD (.int k z) = .v (.int k z) := rfl
@[go_sem] theorem constD_bool (b : Bool) : constD (.bool b) = .v (.bool b) := rfl
@[go_sem] theorem constD_str (s : ByteArray) : constD (.string s) = .v (.string s) := rfl
@[go_sem] theorem constD_nil (c : Nat) : constD (.slice none 0 c) = .list [] := rfl
@[go_sem] theorem constD_nilFunc  : constD (.nilFunc) = .v .nilFunc := rfl
@[go_sem] theorem constD_nilIface  : constD (.nilIface) = .v .nilIface := rfl
@[go_sem] theorem constD_ptr (a : Option Addr) : constD (.pointer a) = .v (.pointer a) := rfl
@[go_sem] theorem constD_map (a : Option Nat) : constD (.map a) = .v (.map a) := rfl
@[go_sem] theorem cellC_int (k : IntKind) (z : Int) : cellC (.int k z) = .d (.v (.int k z)) := rfl
@[go_sem] theorem cellC_bool (b : Bool) : cellC (.bool b) = .d (.v (.bool b)) := rfl
@[go_sem] theorem cellC_str (s : ByteArray) : cellC (.string s) = .d (.v (.string s)) := rfl
@[go_sem] theorem cellC_nil  : cellC (.slice none 0 0) = .nils := rfl
@[go_sem] theorem cellC_nilFunc  : cellC (.nilFunc) = .d (.v .nilFunc) := rfl
@[go_sem] theorem cellC_nilIface  : cellC (.nilIface) = .d (.v .nilIface) := rfl
@[go_sem] theorem cellC_ptr (a : Option Addr) : cellC (.pointer a) = .d (.v (.pointer a)) := rfl
@[go_sem] theorem cellC_map (a : Option Nat) : cellC (.map a) = .d (.v (.map a)) := rfl
@[go_sem] theorem oneC_int (k : IntKind) (z : Int) : (Value.int k z).oneCell' = true := rfl
@[go_sem] theorem vcells_int (k : IntKind) (z : Int) : (Value.int k z).cells = #[.int k z] := rfl
@[go_sem] theorem oneC_bool (b : Bool) : (Value.bool b).oneCell' = true := rfl
@[go_sem] theorem vcells_bool (b : Bool) : (Value.bool b).cells = #[.bool b] := rfl
@[go_sem] theorem oneC_str (s : ByteArray) : (Value.string s).oneCell' = true := rfl
@[go_sem] theorem vcells_str (s : ByteArray) : (Value.string s).cells = #[.string s] := rfl
@[go_sem] theorem oneC_slice (a : Option Addr) (l c : Nat) : (Value.slice a l c).oneCell' = true := rfl
@[go_sem] theorem vcells_slice (a : Option Addr) (l c : Nat) : (Value.slice a l c).cells = #[.slice a l c] := rfl
@[go_sem] theorem oneC_nilFunc  : (Value.nilFunc).oneCell' = true := rfl
@[go_sem] theorem vcells_nilFunc  : (Value.nilFunc).cells = #[.nilFunc] := rfl
@[go_sem] theorem oneC_nilIface  : (Value.nilIface).oneCell' = true := rfl
@[go_sem] theorem vcells_nilIface  : (Value.nilIface).cells = #[.nilIface] := rfl
@[go_sem] theorem oneC_ptr (a : Option Addr) : (Value.pointer a).oneCell' = true := rfl
@[go_sem] theorem vcells_ptr (a : Option Addr) : (Value.pointer a).cells = #[.pointer a] := rfl
@[go_sem] theorem oneC_map (a : Option Nat) : (Value.map a).oneCell' = true := rfl
@[go_sem] theorem vcells_map (a : Option Nat) : (Value.map a).cells = #[.map a] := rfl
@[go_sem] theorem vcells_agg (cs : Array Value) : (Value.agg cs).cells = cs := rfl
@[go_sem] theorem zeroD_int (k : IntKind) (z : Int) : zeroD (.int k z) = constD (.int k z) := rfl
@[go_sem] theorem zeroD_bool (b : Bool) : zeroD (.bool b) = constD (.bool b) := rfl
@[go_sem] theorem zeroD_str (s : ByteArray) : zeroD (.string s) = constD (.string s) := rfl
@[go_sem] theorem zeroD_slice (a : Option Addr) (l c : Nat) : zeroD (.slice a l c) = constD (.slice a l c) := rfl
@[go_sem] theorem zeroD_nilFunc  : zeroD (.nilFunc) = constD (.nilFunc) := rfl
@[go_sem] theorem zeroD_nilIface  : zeroD (.nilIface) = constD (.nilIface) := rfl
@[go_sem] theorem zeroD_ptr (a : Option Addr) : zeroD (.pointer a) = constD (.pointer a) := rfl
@[go_sem] theorem zeroD_map (a : Option Nat) : zeroD (.map a) = constD (.map a) := rfl
@[go_sem] theorem zeroD_agg (cs : Array Value) : zeroD (.agg cs) = .agg (cs.toList.map constD) := rfl
@[go_sem] theorem toV_v (x : Value) : toV (.d (.v x)) = some x := rfl
@[go_sem] theorem toV_agg (cs : List DVal) : toV (.d (.agg cs)) = (toVc cs).map fun vs => .agg ⟨vs⟩ := rfl
@[go_sem] theorem toV_nils : toV .nils = some (.slice none 0 0) := rfl
@[go_sem] theorem toV_list (xs : List DVal) : toV (.d (.list xs)) = none := rfl
@[go_sem] theorem boolOf_b (b : Bool) : boolOf (.d (.v (.bool b))) = some b := rfl
@[go_sem] theorem intOfA_i (k : IntKind) (z : Int) : intOfA (.d (.v (.int k z))) = some z := rfl
@[go_sem] theorem avCells_agg (cs : List DVal) : avCells (.d (.agg cs)) = some (cs.map .d) := rfl
@[go_sem] theorem avCells_v (x : Value) : avCells (.d (.v x)) = some [.d (.v x)] := rfl
@[go_sem] theorem avCells_list (x : List DVal) : avCells (.d (.list x)) = some [.d (.list x)] := rfl
@[go_sem] theorem avCells_nils  : avCells (.nils) = some [.nils] := rfl
@[go_sem] theorem avCells_ptr (l t off : Nat) : avCells (.ptr l t off) = some [.ptr l t off] := rfl
@[go_sem] theorem avCells_ref (l t n : Nat) : avCells (.ref l t n) = some [.ref l t n] := rfl
@[go_sem] theorem avCells_clo (f : FuncId) (xs : List AVal) : avCells (.clo f xs) = some [.clo f xs] := rfl
@[go_sem] theorem avCells_cptr (xs : List DVal) : avCells (.cptr xs) = some [.cptr xs] := rfl
def frzRef (σ : St) (l t n : Nat) : AObj → Option (DVal × St)
  | .arr _ xs => bif decide (l ≤ σ.lev) && (n == xs.length) then some (.list xs, { σ with H := σ.H.set l t (.frz xs) }) else none
  | .frz xs => bif n == xs.length then some (.list xs, σ) else none
  | _ => none
@[go_sem] theorem frzV_d (x : DVal) : frzV σ (.d x) = some (x, σ) := rfl
@[go_sem] theorem frzV_nils : frzV σ .nils = some (.list [], σ) := rfl
@[go_sem] theorem frzV_ref (l t n : Nat) : frzV σ (.ref l t n) = frzRef σ l t n (σ.H l t) := by simp only [frzV, frzRef, nble, nbeq]; cases σ.H l t <;> rfl
@[go_sem] theorem frzRef_arr (l t n sz : Nat) (xs : List DVal) : frzRef σ l t n (.arr sz xs) = bif decide (l ≤ σ.lev) && (n == xs.length) then some (.list xs, { σ with H := σ.H.set l t (.frz xs) }) else none := rfl
@[go_sem] theorem frzRef_frz (l t n : Nat) (xs : List DVal) : frzRef σ l t n (.frz xs) = bif n == xs.length then some (.list xs, σ) else none := rfl
def ldPtr (σ : St) (dst : Option Tmp) (n : Nat) (g : Bool) (off : Nat) : AObj → Option St
  | .box cs => (ldCells g n σ (cs.drop off)).map fun p => p.2.put dst p.1
  | _ => none
def ldElt (σ : St) (dst : Option Tmp) (n : Nat) (g : Bool) (k i j : Nat) : AObj → Option St
  | .arr _ xs => bif k == xs.length then (xs[i]?).bind fun e => (ldData g n (e.cells.drop j)).map fun y => σ.put dst (.d y) else none
  | .frz xs => bif k == xs.length then (xs[i]?).bind fun e => (ldData g n (e.cells.drop j)).map fun y => σ.put dst (.d y) else none
  | _ => none
def ldX (σ : St) (dst : Option Tmp) (n : Nat) (g : Bool) : AVal → Option St
  | .ptr l t off => ldPtr σ dst n g off (σ.H l t)
  | .cptr cs => (ldData g n cs).map fun y => σ.put dst (.d y)
  | .elt l t k i j => ldElt σ dst n g k i j (σ.H l t)
  | _ => none
@[go_sem] theorem stLoad_eq (x : AVal) : stLoad P σ dst ty x = (szOf P ty).bind fun n => (aggOf P ty).bind fun g => ldX σ dst n g x := by
  unfold stLoad
  cases szOf P ty with
  | none => rfl
  | some n =>
    simp only [Option.bind_some]
    cases aggOf P ty with
    | none => rfl
    | some g =>
      simp only [Option.bind_some, nbeq]
      cases x <;> simp only [ldX, ldPtr, ldElt] <;> (rename_i l t _; try cases σ.H l t) <;> rfl
@[go_sem] theorem ldX_ptr (n : Nat) (g : Bool) (l t off : Nat) : ldX σ dst n g (.ptr l t off) = ldPtr σ dst n g off (σ.H l t) := rfl
@[go_sem] theorem ldX_cptr (n : Nat) (g : Bool) (cs : List DVal) : ldX σ dst n g (.cptr cs) = (ldData g n cs).map fun y => σ.put dst (.d y) := rfl
@[go_sem] theorem ldX_elt (n : Nat) (g : Bool) (l t k i j : Nat) : ldX σ dst n g (.elt l t k i j) = ldElt σ dst n g k i j (σ.H l t) := rfl
@[go_sem] theorem ldPtr_box (n : Nat) (g : Bool) (off : Nat) (cs : List AVal) : ldPtr σ dst n g off (.box cs) = (ldCells g n σ (cs.drop off)).map fun p => p.2.put dst p.1 := rfl
@[go_sem] theorem ldElt_arr (n : Nat) (g : Bool) (k i j sz : Nat) (xs : List DVal) : ldElt σ dst n g k i j (.arr sz xs) = bif k == xs.length then (xs[i]?).bind fun e => (ldData g n (e.cells.drop j)).map fun y => σ.put dst (.d y) else none := rfl
@[go_sem] theorem ldElt_frz (n : Nat) (g : Bool) (k i j : Nat) (xs : List DVal) : ldElt σ dst n g k i j (.frz xs) = bif k == xs.length then (xs[i]?).bind fun e => (ldData g n (e.cells.drop j)).map fun y => σ.put dst (.d y) else none := rfl
def stPtr (P : Program) (σ : St) (dst : Option Tmp) (ty l t off : Nat) (ys : List AVal) : AObj → Option St
  | .box cs => bif (szOf P ty).any (fun n => ys.length == n) && decide (l ≤ σ.lev) && AVal.belL (l + 1) ys && decide (off + ys.length ≤ cs.length) then
      some (St.put { σ with H := σ.H.set l t (.box (cs.take off ++ ys ++ cs.drop (off + ys.length))) } dst .any) else none
  | _ => none
def stElt (P : Program) (σ : St) (lev : Nat) (dst : Option Tmp) (ty l t k i j : Nat) (y : DVal) : AObj → Option St
  | .arr sz xs => (xs[i]?).bind fun e => bif (szOf P ty).any (fun n => y.cells.length == n) && (k == xs.length) && decide (l ≤ lev) && decide (j + y.cells.length ≤ sz) then
      some (St.put { σ with H := σ.H.set l t (.arr sz (xs.set i (newElem e y j))) } dst .any) else none
  | _ => none
def stX (P : Program) (σ : St) (dst : Option Tmp) (ty : TypeId) (y : AVal) : AVal → Option St
  | .ptr l t off => (avCells y).bind fun ys => stPtr P σ dst ty l t off ys (σ.H l t)
  | .elt l t k i j => (frzV σ y).bind fun p => stElt P p.2 σ.lev dst ty l t k i j p.1 (p.2.H l t)
  | _ => none
@[go_sem] theorem stStore_eq (x y : AVal) : stStore P σ dst ty x y = stX P σ dst ty y x := by
  have e0 : ∀ m : Nat, Nat.beq m = fun n => m == n := fun m => by funext n; exact nbeq m n
  unfold stStore
  cases x <;> simp only [stX, stPtr, stElt]
  case ptr l t off =>
    cases σ.H l t <;> simp only [nble, e0]
    all_goals (cases avCells y <;> rfl)
  case elt l t k i j =>
    congr 1
    funext p
    cases p.2.H l t <;> simp only [nble, e0]
@[go_sem] theorem stX_ptr (y : AVal) (l t off : Nat) : stX P σ dst ty y (.ptr l t off) = (avCells y).bind fun ys => stPtr P σ dst ty l t off ys (σ.H l t) := rfl
@[go_sem] theorem stX_elt (y : AVal) (l t k i j : Nat) : stX P σ dst ty y (.elt l t k i j) = (frzV σ y).bind fun p => stElt P p.2 σ.lev dst ty l t k i j p.1 (p.2.H l t) := rfl
@[go_sem] theorem stPtr_box (l t off : Nat) (ys cs : List AVal) : stPtr P σ dst ty l t off ys (.box cs) = bif (szOf P ty).any (fun n => ys.length == n) && decide (l ≤ σ.lev) && AVal.belL (l + 1) ys && decide (off + ys.length ≤ cs.length) then some (St.put { σ with H := σ.H.set l t (.box (cs.take off ++ ys ++ cs.drop (off + ys.length))) } dst .any) else none := rfl
@[go_sem] theorem stElt_arr (lev l t k i j : Nat) (y : DVal) (sz : Nat) (xs : List DVal) : stElt P σ lev dst ty l t k i j y (.arr sz xs) = (xs[i]?).bind fun e => bif (szOf P ty).any (fun n => y.cells.length == n) && (k == xs.length) && decide (l ≤ lev) && decide (j + y.cells.length ≤ sz) then some (St.put { σ with H := σ.H.set l t (.arr sz (xs.set i (newElem e y j))) } dst .any) else none := rfl
def faX (σ : St) (dst : Option Tmp) (o : Nat) : AVal → Option St
  | .ptr l t off => some (σ.put dst (.ptr l t (off + o)))
  | .elt l t k i j => some (σ.put dst (.elt l t k i (j + o)))
  | .cptr cs => bif decide (o ≤ cs.length) then some (σ.put dst (.cptr (cs.drop o))) else none
  | _ => none
@[go_sem] theorem stFieldA_eq (s f : Nat) (x : AVal) : stFieldA P σ dst s f x = (fldOf P s f).bind fun p => (szOf P p.2).bind fun n => bif n == 0 then none else faX σ dst p.1 x := by unfold stFieldA; simp only [nbeq]; congr 1; funext p; congr 1; funext n; congr 1; cases x <;> simp only [faX, nble]
@[go_sem] theorem faX_ptr (o l t off : Nat) : faX σ dst o (.ptr l t off) = some (σ.put dst (.ptr l t (off + o))) := rfl
@[go_sem] theorem faX_elt (o l t k i j : Nat) : faX σ dst o (.elt l t k i j) = some (σ.put dst (.elt l t k i (j + o))) := rfl
@[go_sem] theorem faX_cptr (o : Nat) (cs : List DVal) : faX σ dst o (.cptr cs) = bif decide (o ≤ cs.length) then some (σ.put dst (.cptr (cs.drop o))) else none := rfl
@[go_sem] theorem stField_eq (s f : Nat) (cs : List DVal) : stField P σ dst s f (.d (.agg cs)) = (fldOf P s f).bind fun p => (szOf P p.2).bind fun n => (aggOf P p.2).bind fun g => (ldData g n (cs.drop p.1)).map fun y => σ.put dst (.d y) := rfl
def ixRef (σ : St) (dst : Option Tmp) (n : Nat) (z : Int) (l s k : Nat) : AObj → Option St
  | .arr sz xs => bif (k == xs.length) && (sz == n) && decide (z.toNat < k) then some (σ.put dst (.elt l s k z.toNat 0)) else none
  | .frz xs => (xs[z.toNat]?).bind fun y => bif (k == xs.length) && (y.cells.length == n) then some (σ.put dst (.cptr y.cells)) else none
  | _ => none
def ixX (σ : St) (dst : Option Tmp) (n : Nat) (z : Int) : AVal → Option St
  | .d (.list xs) => (xs[z.toNat]?).bind fun y => bif y.cells.length == n then some (σ.put dst (.cptr y.cells)) else none
  | .ref l s k => ixRef σ dst n z l s k (σ.H l s)
  | _ => none
@[go_sem] theorem stIndexA_eq (t : TypeId) (x ix : AVal) : stIndexA P σ dst t x ix = (elemOf' P t).bind fun e => (szOf P e).bind fun n => (intOfA ix).bind fun z => bif decide (0 ≤ z) then ixX σ dst n z x else none := by
  unfold stIndexA
  congr 1; funext e; congr 1; funext n; congr 1; funext z; congr 1
  cases x <;> simp only [ixX, ixRef, nbeq, nblt]
  case ref l s k => cases σ.H l s <;> rfl
  case d x => cases x <;> rfl
@[go_sem] theorem ixX_list (n : Nat) (z : Int) (xs : List DVal) : ixX σ dst n z (.d (.list xs)) = (xs[z.toNat]?).bind fun y => bif y.cells.length == n then some (σ.put dst (.cptr y.cells)) else none := rfl
@[go_sem] theorem ixX_ref (n : Nat) (z : Int) (l s k : Nat) : ixX σ dst n z (.ref l s k) = ixRef σ dst n z l s k (σ.H l s) := rfl
@[go_sem] theorem ixRef_arr (n : Nat) (z : Int) (l s k sz : Nat) (xs : List DVal) : ixRef σ dst n z l s k (.arr sz xs) = bif (k == xs.length) && (sz == n) && decide (z.toNat < k) then some (σ.put dst (.elt l s k z.toNat 0)) else none := rfl
@[go_sem] theorem ixRef_frz (n : Nat) (z : Int) (l s k : Nat) (xs : List DVal) : ixRef σ dst n z l s k (.frz xs) = (xs[z.toNat]?).bind fun y => bif (k == xs.length) && (y.cells.length == n) then some (σ.put dst (.cptr y.cells)) else none := rfl
@[go_sem] theorem lenA_list (xs : List DVal) : lenA (.d (.list xs)) = some xs.length := rfl
@[go_sem] theorem lenA_ref (l t n : Nat) : lenA (.ref l t n) = some n := rfl
@[go_sem] theorem lenA_nils : lenA .nils = some 0 := rfl
def exX (σ : St) (dst : Option Tmp) (i : Nat) : AVal → Option St
  | .tup xs => xs[i]?.map fun y => σ.put dst y
  | _ => none
@[go_sem] theorem stExtract_eq (x : Operand) (i : Nat) : stExtract σ dst x i = exX σ dst i (evO σ x) := by unfold stExtract exX; cases evO σ x <;> rfl
@[go_sem] theorem exX_tup (i : Nat) (xs : List AVal) : exX σ dst i (.tup xs) = xs[i]?.map fun y => σ.put dst y := rfl
def nilX (σ : St) (dst : Option Tmp) : AVal → Option St
  | .ptr l t off => some (σ.put dst (.ptr l t off))
  | .elt l t n i j => some (σ.put dst (.elt l t n i j))
  | .cptr cs => some (σ.put dst (.cptr cs))
  | _ => none
@[go_sem] theorem stNil_eq (x : Operand) : stNil σ dst x = nilX σ dst (evO σ x) := by unfold stNil nilX; cases evO σ x <;> rfl
@[go_sem] theorem nilX_ptr (l t off : Nat) : nilX σ dst (.ptr l t off) = some (σ.put dst (.ptr l t off)) := rfl
@[go_sem] theorem nilX_elt (l t n i j : Nat) : nilX σ dst (.elt l t n i j) = some (σ.put dst (.elt l t n i j)) := rfl
@[go_sem] theorem nilX_cptr (cs : List DVal) : nilX σ dst (.cptr cs) = some (σ.put dst (.cptr cs)) := rfl
def srcRef (n : Nat) : AObj → Option (List DVal)
  | .arr _ xs => bif n == xs.length then some xs else none
  | .frz xs => bif n == xs.length then some xs else none
  | _ => none
@[go_sem] theorem srcL_list (xs : List DVal) : srcL σ (.d (.list xs)) = some xs := rfl
@[go_sem] theorem srcL_str (s : ByteArray) : srcL σ (.d (.v (.string s))) = some (s.data.toList.map byteD) := rfl
@[go_sem] theorem srcL_nils : srcL σ .nils = some [] := rfl
@[go_sem] theorem srcL_ref (l t n : Nat) : srcL σ (.ref l t n) = srcRef n (σ.H l t) := by simp only [srcL, srcRef, nbeq]; cases σ.H l t <;> rfl
@[go_sem] theorem srcRef_arr (n sz : Nat) (xs : List DVal) : srcRef n (.arr sz xs) = bif n == xs.length then some xs else none := rfl
@[go_sem] theorem srcRef_frz (n : Nat) (xs : List DVal) : srcRef n (.frz xs) = bif n == xs.length then some xs else none := rfl
def appRef (P : Program) (σ : St) (d : Nat) (u : TypeId) (ys : List DVal) (sz by_ : Nat) (z : Value) (l s k : Nat) : AObj → Option St
  | .arr sz' xs => bif appOk' P u sz by_ z (xs.length + ys.length) ys && (k == xs.length) && (sz' == sz) && decide (l ≤ σ.lev) then some (St.put { σ with H := σ.H.set l s (.arr sz' (xs ++ ys)) } (some d) (.ref l s (xs.length + ys.length))) else none
  | _ => none
@[go_sem] theorem stApp_nils (d u : Nat) (ys : List DVal) (sz by_ : Nat) (z : Value) : stApp P σ d u .nils ys sz by_ z = bif appOk' P u sz by_ z ys.length ys then some (σ.alloc d (.arr sz ys) (.ref σ.lev d ys.length)) else none := rfl
@[go_sem] theorem stApp_ref (d u : Nat) (ys : List DVal) (sz by_ : Nat) (z : Value) (l s k : Nat) : stApp P σ d u (.ref l s k) ys sz by_ z = appRef P σ d u ys sz by_ z l s k (σ.H l s) := by simp only [stApp, appRef]
@[go_sem] theorem appRef_arr (d u : Nat) (ys : List DVal) (sz by_ : Nat) (z : Value) (l s k sz' : Nat) (xs : List DVal) : appRef P σ d u ys sz by_ z l s k (.arr sz' xs) = bif appOk' P u sz by_ z (xs.length + ys.length) ys && (k == xs.length) && (sz' == sz) && decide (l ≤ σ.lev) then some (St.put { σ with H := σ.H.set l s (.arr sz' (xs ++ ys)) } (some d) (.ref l s (xs.length + ys.length))) else none := rfl
@[go_sem] theorem optInt_none (d : Int) : optInt σ d none = some d := rfl
@[go_sem] theorem optInt_some (d : Int) (x : Operand) : optInt σ d (some x) = intOfA (evO σ x) := rfl
@[go_sem] theorem optV_none : optV σ none = some none := rfl
@[go_sem] theorem optV_some (x : Operand) : optV σ (some x) = (toV (evO σ x)).map some := rfl
def slX (σ0 : St) (σ : St) (dst : Option Tmp) (n : Nat) (lo hi : Option Operand) : DVal → Option St
  | .list xs => (optInt σ0 0 lo).bind fun l => (optInt σ0 xs.length hi).bind fun h => bif decide (0 ≤ l) && decide (l ≤ h) && decide (h ≤ xs.length) && allLen n xs then some (σ.put dst (.d (.list ((xs.drop l.toNat).take (h.toNat - l.toNat))))) else none
  | _ => none
@[go_sem] theorem stSliceL_eq (t : TypeId) (x : AVal) (lo hi : Option Operand) : stSliceL P σ dst t x lo hi = (elemOf' P t).bind fun e => (szOf P e).bind fun n => (frzV σ x).bind fun p => slX σ p.2 dst n lo hi p.1 := by
  unfold stSliceL
  rfl
@[go_sem] theorem slX_list (σ' : St) (n : Nat) (lo hi : Option Operand) (xs : List DVal) : slX σ σ' dst n lo hi (.list xs) = (optInt σ 0 lo).bind fun l => (optInt σ xs.length hi).bind fun h => bif decide (0 ≤ l) && decide (l ≤ h) && decide (h ≤ xs.length) && allLen n xs then some (σ'.put dst (.d (.list ((xs.drop l.toNat).take (h.toNat - l.toNat))))) else none := rfl
noncomputable def cvX (P : Program) (σ : St) (dst : Option Tmp) (s t : TypeId) (x : AVal) : Option Value → Option St
  | some (.string _) => bif isStr P s && isU8 P t then onDst dst (fun d => stToBytes P σ d s t x) else scal1 σ dst x (convV P s t)
  | some (.int _ _) => scal1 σ dst x (convV P s t)
  | some (.bool _) => scal1 σ dst x (convV P s t)
  | some (.float _ _) => scal1 σ dst x (convV P s t)
  | _ => stToStr P σ dst s t x
@[go_sem] theorem stConv_eq (s t : TypeId) (x : Operand) : stConv P σ dst s t x = cvX P σ dst s t (evO σ x) (toV (evO σ x)) := by unfold stConv cvX onDst; split <;> first | rfl | simp_all
@[go_sem] theorem cvX_str (s t : TypeId) (x : AVal) (u : ByteArray) : cvX P σ dst s t x (some (.string u)) = bif isStr P s && isU8 P t then onDst dst (fun d => stToBytes P σ d s t x) else scal1 σ dst x (convV P s t) := rfl
@[go_sem] theorem cvX_int (s t : TypeId) (x : AVal) (k : IntKind) (z : Int) : cvX P σ dst s t x (some (.int k z)) = scal1 σ dst x (convV P s t) := rfl
@[go_sem] theorem cvX_none (s t : TypeId) (x : AVal) : cvX P σ dst s t x none = stToStr P σ dst s t x := rfl
@[go_sem] theorem cvX_slice (s t : TypeId) (x : AVal) (a : Option Addr) (n c : Nat) : cvX P σ dst s t x (some (.slice a n c)) = stToStr P σ dst s t x := rfl
@[go_sem] theorem stToBytes_s (d s t : Nat) (u : ByteArray) : stToBytes P σ d s t (.d (.v (.string u))) = bif isStr P s && isU8 P t then some (σ.alloc d (.arr 1 (u.data.toList.map byteD)) (.ref σ.lev d u.size)) else none := rfl
def notV : AVal → Bool
  | .d (.v _) => false
  | _ => true
@[go_sem] theorem stToStr_eq (s t : TypeId) (x : AVal) : stToStr P σ dst s t x = (srcL σ x).bind fun ys => (bytesOf ys).bind fun bs => bif isU8 P s && isStr P t && notV x then some (σ.put dst (.d (.v (.string ⟨bs.toArray⟩)))) else none := by unfold stToStr notV; first | rfl | (congr 1)
@[go_sem] theorem notV_list (xs : List DVal) : notV (.d (.list xs)) = true := rfl
@[go_sem] theorem notV_ref (l t n : Nat) : notV (.ref l t n) = true := rfl
@[go_sem] theorem notV_nils : notV .nils = true := rfl
@[go_sem] theorem stCallB_len (x : Operand) (t : TypeId) : stCallB P σ dst ty .len [x] [t] = bif isStr P t then stBuiltin P σ dst .len #[t] ty #[x] else stLen P σ dst t (evO σ x) := rfl
@[go_sem] theorem stCallB_append (x y : Operand) (t u : TypeId) : stCallB P σ dst ty .append [x, y] [t, u] = onDst dst (fun d => stAppend P σ d t u (evO σ x) (evO σ y)) := by cases dst <;> rfl
@[go_sem] theorem stCallB_max (xs : List Operand) (ts : List TypeId) : stCallB P σ dst ty .max xs ts = stBuiltin P σ dst .max ts.toArray ty xs.toArray := by unfold stCallB; split <;> simp_all
@[go_sem] theorem stCallB_min (xs : List Operand) (ts : List TypeId) : stCallB P σ dst ty .min xs ts = stBuiltin P σ dst .min ts.toArray ty xs.toArray := by unfold stCallB; split <;> simp_all
@[go_sem] theorem retVal_1 (x : DVal) : retVal [x] = .d x := rfl
@[go_sem] theorem retVal_0 : retVal [] = .tup [] := rfl
@[go_sem] theorem retVal_2 (x y : DVal) (r : List DVal) : retVal (x :: y :: r) = .tup (.d x :: .d y :: r.map .d) := rfl
def resBox (P : Program) (σ : St) (ty off : Nat) (r : List ResultVar) : AObj → Option (List DVal × St)
  | .box cs => (szOf P ty).bind fun n => (aggOf P ty).bind fun g => (ldCells g n σ (cs.drop off)).bind fun y => (frzV y.2 y.1).bind fun p => (resV P p.2 r).map fun q => (p.1 :: q.1, q.2)
  | _ => none
def resC (P : Program) (σ : St) (ty : Nat) (r : List ResultVar) : AVal → Option (List DVal × St)
  | .ptr l t off => resBox P σ ty off r (σ.H l t)
  | _ => none
@[go_sem] theorem resV_nil : resV P σ [] = some ([], σ) := by simp only [resV]
@[go_sem] theorem resV_tmp (t : Nat) (r : List ResultVar) : resV P σ (.tmp t :: r) = (frzV σ (lk σ.T t)).bind fun p => (resV P p.2 r).map fun q => (p.1 :: q.1, q.2) := by simp only [resV]
@[go_sem] theorem resV_cell (a t : Nat) (r : List ResultVar) : resV P σ (.cell a t :: r) = resC P σ t r (lk σ.T a) := by simp only [resV]; cases lk σ.T a <;> simp only [resC, resBox]; all_goals (rename_i l t off; cases σ.H l t <;> rfl)
@[go_sem] theorem resC_ptr (t : Nat) (r : List ResultVar) (l s off : Nat) : resC P σ t r (.ptr l s off) = resBox P σ t off r (σ.H l s) := rfl
@[go_sem] theorem resBox_box (t off : Nat) (r : List ResultVar) (cs : List AVal) : resBox P σ t off r (.box cs) = (szOf P t).bind fun n => (aggOf P t).bind fun g => (ldCells g n σ (cs.drop off)).bind fun y => (frzV y.2 y.1).bind fun p => (resV P p.2 r).map fun q => (p.1 :: q.1, q.2) := rfl
@[go_sem] theorem AThen_exit (id : Nat) (N : St → Prop) (Q : Exit → St → Prop) : AThen N Q (.exit id) σ = Q (.exit id) σ := rfl
@[go_sem] theorem AThen_ret (N : St → Prop) (Q : Exit → St → Prop) : AThen N Q (.ret) σ = Q (.ret) σ := rfl
@[go_sem] theorem AThen_goto (id : Nat) (N : St → Prop) (Q : Exit → St → Prop) : AThen N Q (.goto id) σ = Q (.goto id) σ := rfl
@[go_sem] theorem AThen_normal (N : St → Prop) (Q : Exit → St → Prop) : AThen N Q .normal σ = N σ := rfl
@[go_sem] theorem AThen_normal' (N : St → Prop) (Q : Exit → St → Prop) : AThen N Q .normal = N := rfl
@[go_sem] theorem Ends_ret (fn : Func) (lev : Nat) (Q : AVal → Hp → Prop) : Ends P fn lev Q .ret σ = (σ.lev = lev ∧ aRes lev Q (resV P σ fn.results.toList)) := rfl
@[go_sem] theorem Ends_normal (fn : Func) (lev : Nat) (Q : AVal → Hp → Prop) : Ends P fn lev Q .normal σ = (σ.lev = lev ∧ aRes lev Q (resV P σ fn.results.toList)) := rfl
@[go_sem] theorem aRes_some (lev : Nat) (Q : AVal → Hp → Prop) (p : List DVal × St) : aRes lev Q (some p) = Q (retVal p.1) (fun l t => bif Nat.blt l lev then p.2.H l t else .dead) := rfl
@[go_sem] theorem ABlock_exit (i id : Nat) (Q : Exit → St → Prop) : ABlock i Q (.exit id) σ = if id = i then Q .normal σ else Q (.exit id) σ := rfl
@[go_sem] theorem ABlock_normal (i : Nat) (Q : Exit → St → Prop) : ABlock i Q .normal σ = Q .normal σ := rfl
@[go_sem] theorem ABlock_ret (i : Nat) (Q : Exit → St → Prop) : ABlock i Q .ret σ = Q .ret σ := rfl
@[go_sem] theorem ABlock_normal' (i : Nat) (Q : Exit → St → Prop) : ABlock i Q .normal = Q .normal := rfl
@[go_sem] theorem purge_box (l t : Nat) (cs : List AVal) : AObj.purge l t (.box cs) = .box (AVal.purgeL l t cs) := rfl
@[go_sem] theorem purge_arr (l t sz : Nat) (xs : List DVal) : AObj.purge l t (.arr sz xs) = .arr sz xs := rfl
@[go_sem] theorem purge_frz (l t : Nat) (xs : List DVal) : AObj.purge l t (.frz xs) = .frz xs := rfl
@[go_sem] theorem purge_dead (l t : Nat) : AObj.purge l t .dead = .dead := rfl
@[go_sem] theorem dcells_agg (cs : List DVal) : (DVal.agg cs).cells = cs := rfl
@[go_sem] theorem dcells_v (x : Value) : (DVal.v x).cells = [.v x] := rfl
@[go_sem] theorem dcells_list (x : List DVal) : (DVal.list x).cells = [.list x] := rfl
end
attribute [go_sem] stepOp evL lk setT St.put St.alloc purgeT AVal.purge AVal.purgeL toVc scal1 scal2 stPick stFunc stAlloc stBox ldCells ldData frzL newElem stLen stBuiltin toVs stNilSlice stSliceS zipI fillD stBuild
  setAll entry argT scalarA scalarL scalarAL AVal.bel AVal.belL appOk'
  cond_true cond_false Option.bind_some Option.bind_none Option.map_some Option.map_none Option.any_some List.map_cons List.map_nil List.cons_append List.nil_append List.append_nil List.length_cons List.length_nil List.head?_cons List.isEmpty_nil List.take_succ_cons List.take_zero List.drop_succ_cons List.drop_zero List.drop_nil List.take_nil
  List.all_cons List.all_nil List.set_cons_zero List.set_cons_succ List.zip_cons_cons List.zip_nil_left List.zip_nil_right List.getElem?_cons_zero List.getElem?_cons_succ List.replicate_succ List.replicate_zero Bool.and_true Bool.true_and Bool.and_false Bool.false_and Bool.not_true Bool.not_false beq_self_eq_true decide_true decide_false
  List.size_toArray List.getElem?_toArray true_and and_true forall_const
end Go.Fw
