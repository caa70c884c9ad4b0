/- One operation: which, and that it is sound. -/
import Derived.Test.YtpgnhajindbhlaaFwL
set_option autoImplicit false
namespace Go.Fw
def binS (op : BinOp) (t : TypeId) (x y : Operand) (u v : Value) : Sem Value := do
  eqGuard op t x y u v
  binOp op t u v
noncomputable def binV (P : Program) (op : BinOp) (t : TypeId) (x y : Operand) (u v : Value) : Option Value := pr P (binS op t x y u v)
noncomputable def unV (P : Program) (op : UnOp) (u : Value) : Option Value := pr P (Op.unary op u)
noncomputable def convV (P : Program) (s t : TypeId) (u : Value) : Option Value := pr P (convert s t u)
noncomputable def indexV (P : Program) (t : TypeId) (u v : Value) : Option Value := pr P (Instr.index t u v)
noncomputable def stConv (P : Program) (σ : St) (dst : Option Tmp) (s t : TypeId) (x : Operand) : Option St :=
  match toV (evO σ x) with
  | some (.string _) => bif isStr P s && isU8 P t then (match dst with | some d => stToBytes P σ d s t (evO σ x) | none => none) else scal1 σ dst (evO σ x) (convV P s t)
  | some (.int _ _) => scal1 σ dst (evO σ x) (convV P s t)
  | some (.bool _) => scal1 σ dst (evO σ x) (convV P s t)
  | some (.float _ _) => scal1 σ dst (evO σ x) (convV P s t)
  | _ => stToStr P σ dst s t (evO σ x)
noncomputable def stCallB (P : Program) (σ : St) (dst : Option Tmp) (ty : TypeId) (b : Builtin) (xs : List Operand) (ts : List TypeId) : Option St :=
  match b, xs, ts with
  | .len, [x], [t] => bif isStr P t then stBuiltin P σ dst .len #[t] ty #[x] else stLen P σ dst t (evO σ x)
  | .append, [x, y], [t, u] => (match dst with | some d => stAppend P σ d t u (evO σ x) (evO σ y) | none => none)
  | .max, xs, ts => stBuiltin P σ dst .max ts.toArray ty xs.toArray
  | .min, xs, ts => stBuiltin P σ dst .min ts.toArray ty xs.toArray
  | _, _, _ => none
def isNilS : Operand → Bool
  | .const (.slice none 0 0) => true
  | _ => false
def onDst (dst : Option Tmp) (f : Nat → Option St) : Option St := match dst with | some d => f d | none => none
noncomputable def stepD (P : Program) (σ : St) (dst : Option Tmp) (ty : TypeId) : Op → Option St
  | .assign x => bif isNilS x then onDst dst (fun d => stNilSlice P σ d ty) else some (σ.put dst (evO σ x))
  | .move x => some (σ.put dst (evO σ x))
  | .pick c x y => stPick σ dst c x y
  | .alloc t => onDst dst (fun d => stAlloc P σ d t)
  | .box _ x => onDst dst (fun d => stBox σ d (evO σ x))
  | .build t ps => stBuild P σ dst t ps
  | .buildSlice t n ps => onDst dst (fun d => stBuildSlice P σ d t n ps)
  | .load t x => stLoad P σ dst t (evO σ x)
  | .store t x y => stStore P σ dst t (evO σ x) (evO σ y)
  | .nilCheck x => stNil σ dst x
  | .binOp op t x y _ => scal2 σ dst (evO σ x) (evO σ y) (binV P op t x y)
  | .unOp op _ x => scal1 σ dst (evO σ x) (unV P op)
  | .convert s t x => stConv P σ dst s t x
  | .makeFunc (.func f) first caps => bif first.toList.isEmpty then some (stFunc σ dst f caps) else none
  | .makeSlice t l c => onDst dst (fun d => stMakeSlice P σ d t (evO σ l) (evO σ c))
  | .slice t x lo hi none => bif isStr P t then stSliceS P σ dst t (evO σ x) lo hi else stSliceL P σ dst t (evO σ x) lo hi
  | .fieldAddr s x f => stFieldA P σ dst s f (evO σ x)
  | .field s x f => stField P σ dst s f (evO σ x)
  | .indexAddr t x i => stIndexA P σ dst t (evO σ x) (evO σ i)
  | .index t x i => scal2 σ dst (evO σ x) (evO σ i) (indexV P t)
  | .extract x i => stExtract σ dst x i
  | .call { callee := .builtin b, args, argTypes } => stCallB P σ dst ty b args.toList argTypes.toList
  | _ => none
noncomputable def stepOp (P : Program) (σ : St) (o : Oper) : Option St := bif okDst σ.n o.dst then stepD P σ o.dst o.type o.op else none
theorem onDst_some {dst : Option Tmp} {f : Nat → Option St} {σ' : St} (h : onDst dst f = some σ') : ∃ d, dst = some d ∧ f d = some σ' := by
  cases dst with
  | none => cases h
  | some d => exact ⟨d, rfl, h⟩
theorem arr1 {α : Type} {xs : Array α} {x : α} (h : xs.toList = [x]) : xs = #[x] := by apply Array.ext'; simpa using h
theorem arr2 {α : Type} {xs : Array α} {x y : α} (h : xs.toList = [x, y]) : xs = #[x, y] := by apply Array.ext'; simpa using h
theorem conv_ok {P : Program} {σ σ' : St} {o : Oper} {s t : TypeId} {x : Operand} (ho : o.op = .convert s t x) (hd : okDst σ.n o.dst = true) (h : stConv P σ o.dst s t x = some σ') : OpOk P o σ σ' := by
  have sc : scal1 σ o.dst (evO σ x) (convV P s t) = some σ' → OpOk P o σ σ' := fun h => scal1_ok (P := P) hd h (fun ρ => by simp only [execOp, ho])
  unfold stConv at h
  split at h
  · cases hc : (isStr P s && isU8 P t) with
    | false => rw [hc] at h; exact sc h
    | true =>
      rw [hc] at h
      simp only [cond_true] at h
      split at h
      · rename_i d hdd; exact toBytes_ok ho hdd hd h
      · cases h
  · exact sc h
  · exact sc h
  · exact sc h
  · exact toStr_ok ho hd h
theorem callB_ok {P : Program} {σ σ' : St} {o : Oper} {b : Builtin} {xs : Array Operand} {ts : Array TypeId} (ho : o.op = .call { callee := .builtin b, args := xs, argTypes := ts }) (hd : okDst σ.n o.dst = true) (h : stCallB P σ o.dst o.type b xs.toList ts.toList = some σ') : OpOk P o σ σ' := by
  unfold stCallB at h
  split at h
  · rename_i x t e1 e2
    obtain rfl := arr1 e1
    obtain rfl := arr1 e2
    cases hc : isStr P t with
    | false => rw [hc] at h; exact len_ok ho hd h
    | true => rw [hc] at h; exact builtin_ok ho hd h
  · rename_i x y t u e1 e2
    obtain rfl := arr2 e1
    obtain rfl := arr2 e2
    split at h
    · rename_i d hdd; exact append_ok ho hdd hd h
    · cases h
  · have e1 : xs.toList.toArray = xs := by simp
    have e2 : ts.toList.toArray = ts := by simp
    rw [e1, e2] at h
    exact builtin_ok ho hd h
  · have e1 : xs.toList.toArray = xs := by simp
    have e2 : ts.toList.toArray = ts := by simp
    rw [e1, e2] at h
    exact builtin_ok ho hd h
  · cases h
theorem step_ok {P : Program} {σ σ' : St} {o : Oper} (h : stepOp P σ o = some σ') : OpOk P o σ σ' := by
  unfold stepOp at h
  cases hd : okDst σ.n o.dst with
  | false => rw [hd] at h; cases h
  | true =>
    rw [hd] at h
    simp only [cond_true] at h
    unfold stepD at h
    split at h
    · rename_i x ho
      cases hn : isNilS x with
      | true =>
        rw [hn] at h
        simp only [cond_true] at h
        have hx : x = .const (.slice none 0 0) := by
          unfold isNilS at hn
          split at hn
          · rfl
          · cases hn
        subst hx
        obtain ⟨d, hdd, h⟩ := onDst_some h
        exact nilSlice_ok ho hdd hd h
      | false =>
        rw [hn] at h
        simp only [cond_false, Option.some.injEq] at h
        subst h
        exact move_ok hd (fun ρ => by simp only [execOp, ho])
    · rename_i x ho
      simp only [Option.some.injEq] at h
      subst h
      exact move_ok hd (fun ρ => by simp only [execOp, ho])
    · rename_i c x y ho; exact pick_ok ho hd h
    · rename_i t ho; obtain ⟨d, hdd, h⟩ := onDst_some h; exact alloc_ok ho hdd hd h
    · rename_i t x ho; obtain ⟨d, hdd, h⟩ := onDst_some h; exact box_ok ho hdd hd h
    · rename_i t ps ho; exact build_ok ho hd h
    · rename_i t n ps ho; obtain ⟨d, hdd, h⟩ := onDst_some h; exact buildSlice_ok ho hdd hd h
    · rename_i t x ho; exact load_ok ho hd h
    · rename_i t x y ho; exact store_ok ho hd h
    · rename_i x ho; exact nil_ok ho hd h
    · rename_i op t x y _ ho; exact scal2_ok (P := P) hd h (fun ρ => by simp only [execOp, ho]; rfl)
    · rename_i op _ x ho; exact scal1_ok (P := P) hd h (fun ρ => by simp only [execOp, ho])
    · rename_i s t x ho; exact conv_ok ho hd h
    · rename_i f first caps ho
      cases hf : first.toList.isEmpty with
      | false => rw [hf] at h; cases h
      | true =>
        rw [hf] at h
        simp only [cond_true, Option.some.injEq] at h
        subst h
        have : first = #[] := by apply Array.ext'; simpa using hf
        subst this
        exact func_ok ho hd
    · rename_i t l c ho; obtain ⟨d, hdd, h⟩ := onDst_some h; exact makeSlice_ok ho hdd hd h
    · rename_i t x lo hi ho
      cases hs : isStr P t with
      | true => rw [hs] at h; exact sliceS_ok ho hd h
      | false => rw [hs] at h; exact sliceL_ok ho hd h
    · rename_i s x f ho; exact fieldA_ok ho hd h
    · rename_i s x f ho; exact field_ok ho hd h
    · rename_i t x i ho; exact indexA_ok ho hd h
    · rename_i t x i ho; exact scal2_ok (P := P) hd h (fun ρ => by simp only [execOp, ho])
    · rename_i x i ho; exact extract_ok ho hd h
    · rename_i b args argTypes ho; exact callB_ok ho hd h
    · cases h
end Go.Fw
