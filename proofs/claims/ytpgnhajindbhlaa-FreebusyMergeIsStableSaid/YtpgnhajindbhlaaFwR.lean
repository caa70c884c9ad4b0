/- What an operation touches, and what it does, told without the rest of the state. -/
import Derived.Test.YtpgnhajindbhlaaFwP
set_option autoImplicit false
namespace Go.Fw
inductive Cl where
  | pure
  | mem (l t : Nat) (w : Bool)
  | new
def isD : AVal → Bool
  | .d _ => true
  | .nils => true
  | _ => false
def allD : List AVal → Bool
  | [] => true
  | x :: r => isD x && allD r
def datum : AVal → DVal
  | .d x => x
  | _ => .list []
theorem frzV_isD (σ : St) {x : AVal} (h : isD x = true) : frzV σ x = some (datum x, σ) := by cases x <;> first | rfl | cases h
theorem frzL_allD (σ : St) : ∀ {xs : List AVal}, allD xs = true → frzL σ xs = some (xs.map datum, σ)
  | [], _ => rfl
  | x :: r, h => by
    simp only [allD, Bool.and_eq_true] at h
    simp [frzL, frzV_isD σ h.1, frzL_allD σ h.2]
def opVals (σ : St) (op : Op) : List AVal := op.operands.toList.map (evO σ)
def clLoad (P : Program) (H : Hp) (ty : TypeId) : AVal → Option Cl
  | .ptr l t _ => (match H l t with | .box cs => bif (aggOf P ty).any (fun g => !g) || allD cs then some (.mem l t false) else none | _ => none)
  | .elt l t _ _ _ => some (.mem l t false)
  | .cptr _ => some .pure
  | _ => none
def clStore : AVal → AVal → Option Cl
  | .ptr l t _, _ => some (.mem l t true)
  | .elt l t _ _ _, y => bif isD y then some (.mem l t true) else none
  | _, _ => none
def clIdx : AVal → Option Cl
  | .ref l t _ => some (.mem l t false)
  | .d _ => some .pure
  | _ => none
def f1 {α : Type} (g : AVal → Option α) : List AVal → Option α
  | [x] => g x
  | _ => none
def f2 {α : Type} (g : AVal → AVal → Option α) : List AVal → Option α
  | [x, y] => g x y
  | _ => none
def f3 {α : Type} (g : AVal → AVal → AVal → Option α) : List AVal → Option α
  | [x, y, z] => g x y z
  | _ => none
def fc {α : Type} (g : AVal → List AVal → Option α) : List AVal → Option α
  | x :: r => g x r
  | _ => none
theorem f1_some {α : Type} {g : AVal → Option α} {xs : List AVal} {e : α} (h : f1 g xs = some e) : ∃ x, xs = [x] ∧ g x = some e := by
  match xs, h with
  | [x], h => exact ⟨x, rfl, h⟩
theorem f2_some {α : Type} {g : AVal → AVal → Option α} {xs : List AVal} {e : α} (h : f2 g xs = some e) : ∃ x y, xs = [x, y] ∧ g x y = some e := by
  match xs, h with
  | [x, y], h => exact ⟨x, y, rfl, h⟩
theorem f3_some {α : Type} {g : AVal → AVal → AVal → Option α} {xs : List AVal} {e : α} (h : f3 g xs = some e) : ∃ x y z, xs = [x, y, z] ∧ g x y z = some e := by
  match xs, h with
  | [x, y, z], h => exact ⟨x, y, z, rfl, h⟩
theorem fc_some {α : Type} {g : AVal → List AVal → Option α} {xs : List AVal} {e : α} (h : fc g xs = some e) : ∃ x r, xs = x :: r ∧ g x r = some e := by
  match xs, h with
  | x :: r, h => exact ⟨x, r, rfl, h⟩
def clSlice (P : Program) (t : TypeId) (mx : Option Operand) (x : AVal) (_ : List AVal) : Option Cl := match mx with
  | none => bif isStr P t || isD x then some .pure else none
  | some _ => none
def clCall : Callee → Option Cl
  | .builtin .len => some .pure
  | .builtin .min => some .pure
  | .builtin .max => some .pure
  | _ => none
def cls1 (P : Program) (H : Hp) : Op → List AVal → Option Cl
  | .move _ => fun _ => some .pure
  | .assign x => fun _ => some (bif isNilS x then .new else .pure)
  | .pick _ _ _ => fun _ => some .pure
  | .nilCheck _ => fun _ => some .pure
  | .binOp _ _ _ _ _ => fun _ => some .pure
  | .unOp _ _ _ => fun _ => some .pure
  | .fieldAddr _ _ _ => fun _ => some .pure
  | .field _ _ _ => fun _ => some .pure
  | .extract _ _ => fun _ => some .pure
  | .index _ _ _ => fun _ => some .pure
  | .makeFunc _ _ _ => fun _ => some .pure
  | .alloc _ => fun _ => some .new
  | .build _ _ => fun xs => bif allD xs then some .pure else none
  | .buildSlice _ _ _ => fun xs => bif allD xs then some .new else none
  | .load ty _ => f1 (clLoad P H ty)
  | .store _ _ _ => f2 clStore
  | .indexAddr _ _ _ => f2 fun x _ => clIdx x
  | .slice t _ _ _ mx => fc (clSlice P t mx)
  | .call c => fun _ => clCall c.callee
  | _ => fun _ => none
def cls (P : Program) (σ : St) (op : Op) : Option Cl := cls1 P σ.H op (opVals σ op)
structure Eff where
  r : AVal
  up : Option (Nat × Nat × AObj)
  nw : Bool
def Eff.app (e : Eff) (σ : St) (dst : Option Tmp) : St :=
  match e.up with
  | none => σ.put dst e.r
  | some (l, t, ob) => bif e.nw then σ.alloc t ob e.r else St.put { σ with H := σ.H.set l t ob } dst e.r
def pv (r : AVal) : Eff := ⟨r, none, false⟩
def fieldAV (off : Nat) : AVal → Option Eff
  | .ptr l t o => some (pv (.ptr l t (o + off)))
  | .elt l t k i j => some (pv (.elt l t k i (j + off)))
  | .cptr cs => bif Nat.ble off cs.length then some (pv (.cptr (cs.drop off))) else none
  | _ => none
def nilV : AVal → Option Eff
  | .ptr l t off => some (pv (.ptr l t off))
  | .elt l t n i j => some (pv (.elt l t n i j))
  | .cptr cs => some (pv (.cptr cs))
  | _ => none
def fieldV (g : Bool) (n off : Nat) : AVal → Option Eff
  | .d (.agg cs) => (ldData g n (cs.drop off)).map fun y => pv (.d y)
  | _ => none
def extV (i : Nat) : AVal → Option Eff
  | .tup xs => xs[i]?.map pv
  | _ => none
def eltV (g : Bool) (n k i j : Nat) : AObj → Option Eff
  | .arr _ xs => bif Nat.beq k xs.length then (xs[i]?).bind fun e => (ldData g n (e.cells.drop j)).map fun y => pv (.d y) else none
  | .frz xs => bif Nat.beq k xs.length then (xs[i]?).bind fun e => (ldData g n (e.cells.drop j)).map fun y => pv (.d y) else none
  | _ => none
def boxV (g : Bool) (n off : Nat) : AObj → Option Eff
  | .box cs => bif g then (bif Nat.ble n (cs.drop off).length then some (pv (.d (.agg (((cs.drop off).take n).map datum)))) else none) else (cs.drop off).head?.map pv
  | _ => none
def loadV (P : Program) (H : Hp) (ty : TypeId) (x : AVal) : Option Eff :=
  (szOf P ty).bind fun n => (aggOf P ty).bind fun g =>
  match x with
  | .ptr l t off => boxV g n off (H l t)
  | .cptr cs => (ldData g n cs).map fun y => pv (.d y)
  | .elt l t k i j => eltV g n k i j (H l t)
  | _ => none
def stBoxV (P : Program) (lev : Nat) (ty : TypeId) (l t off : Nat) (y : AVal) : AObj → Option Eff
  | .box cs => (avCells y).bind fun ys => bif (szOf P ty).any (Nat.beq ys.length) && Nat.ble l lev && AVal.belL (l + 1) ys && Nat.ble (off + ys.length) cs.length then
      some ⟨.any, some (l, t, .box (cs.take off ++ ys ++ cs.drop (off + ys.length))), false⟩ else none
  | _ => none
def stEltV (P : Program) (lev : Nat) (ty : TypeId) (l t k i j : Nat) (y : DVal) : AObj → Option Eff
  | .arr sz xs => (xs[i]?).bind fun e => bif (szOf P ty).any (Nat.beq y.cells.length) && Nat.beq k xs.length && Nat.ble l lev && Nat.ble (j + y.cells.length) sz then
      some ⟨.any, some (l, t, .arr sz (xs.set i (newElem e y j))), false⟩ else none
  | _ => none
def storeV (P : Program) (H : Hp) (lev : Nat) (ty : TypeId) (x y : AVal) : Option Eff :=
  match x with
  | .ptr l t off => stBoxV P lev ty l t off y (H l t)
  | .elt l t k i j => stEltV P lev ty l t k i j (datum y) (H l t)
  | _ => none
def idxO (l s k n : Nat) (z : Int) : AObj → Option Eff
  | .arr sz xs => bif Nat.beq k xs.length && Nat.beq sz n && Nat.blt z.toNat k then some (pv (.elt l s k z.toNat 0)) else none
  | .frz xs => (xs[z.toNat]?).bind fun y => bif Nat.beq k xs.length && Nat.beq y.cells.length n then some (pv (.cptr y.cells)) else none
  | _ => none
def idxV (P : Program) (H : Hp) (t : TypeId) (x ix : AVal) : Option Eff :=
  (elemOf' P t).bind fun e => (szOf P e).bind fun n => (intOfA ix).bind fun z => bif decide (0 ≤ z) then
  (match x with
  | .d (.list xs) => (xs[z.toNat]?).bind fun y => bif Nat.beq y.cells.length n then some (pv (.cptr y.cells)) else none
  | .ref l s k => idxO l s k n z (H l s)
  | _ => none) else none
/-- The bounds' values. -/
def bnds : Option Operand → Option Operand → List AVal → Option AVal × Option AVal
  | none, none, _ => (none, none)
  | some _, none, [a] => (some a, none)
  | none, some _, [b] => (none, some b)
  | some _, some _, [a, b] => (some a, some b)
  | _, _, _ => (none, none)
def optIV (d : Int) : Option AVal → Option Int
  | none => some d
  | some x => intOfA x
def optVV : Option AVal → Option (Option Value)
  | none => some none
  | some x => (toV x).map some
def slLV (P : Program) (t : TypeId) (x : DVal) (lo hi : Option AVal) : Option Eff :=
  (elemOf' P t).bind fun e => (szOf P e).bind fun n =>
  match x with
  | .list xs => (optIV 0 lo).bind fun l => (optIV xs.length hi).bind fun h =>
    bif decide (0 ≤ l) && decide (l ≤ h) && decide (h ≤ xs.length) && allLen n xs then some (pv (.d (.list ((xs.drop l.toNat).take (h.toNat - l.toNat))))) else none
  | _ => none
noncomputable def slSV (P : Program) (t : TypeId) (x : AVal) (lo hi : Option AVal) : Option Eff :=
  (toV x).bind fun u => (optVV lo).bind fun l => (optVV hi).bind fun h => (sliceV P t u l h).map fun r => pv (ofConst r)
noncomputable def biV (P : Program) (b : Builtin) (ts : Array TypeId) (ty : TypeId) (cs : Array Bool) (xs : List AVal) : Option Eff := (toVs xs).bind fun us => (builtinV P b ts ty cs us).map fun r => pv (ofConst r)
noncomputable def callBV (P : Program) (ty : TypeId) (b : Builtin) (os : List Operand) (xs : List AVal) (ts : List TypeId) : Option Eff :=
  match b, os, xs, ts with
  | .len, [o], [x], [t] => bif isStr P t then biV P .len #[t] ty (#[o].map isC) [x] else (elemOf' P t).bind fun _ => (lenA x).map fun (n : Nat) => pv (.d (.v (.int .i64 n)))
  | .max, os, xs, ts => biV P .max ts.toArray ty (os.toArray.map isC) xs
  | .min, os, xs, ts => biV P .min ts.toArray ty (os.toArray.map isC) xs
  | _, _, _, _ => none
def onDstE (dst : Option Tmp) (f : Nat → Option Eff) : Option Eff := match dst with | some d => f d | none => none
noncomputable def ev1 (P : Program) (H : Hp) (lev : Nat) (dst : Option Tmp) (ty : TypeId) : Op → List AVal → Option Eff
  | .move _ => f1 fun x => some (pv x)
  | .assign o => f1 fun x => bif isNilS o then onDstE dst (fun d => (elemOf' P ty).bind fun e => (szOf P e).map fun n => ⟨.ref lev d 0, some (lev, d, .arr n []), true⟩) else some (pv x)
  | .pick _ _ _ => f3 fun c x y => (boolOf c).map fun b => pv (bif b then x else y)
  | .nilCheck _ => f1 nilV
  | .binOp op t a b _ => f2 fun x y => (toV x).bind fun u => (toV y).bind fun v => (binV P op t a b u v).map fun r => pv (ofConst r)
  | .unOp op _ _ => f1 fun x => (toV x).bind fun u => (unV P op u).map fun r => pv (ofConst r)
  | .index t _ _ => f2 fun x y => (toV x).bind fun u => (toV y).bind fun v => (indexV P t u v).map fun r => pv (ofConst r)
  | .fieldAddr s _ f => f1 fun x => (fldOf P s f).bind fun p => (szOf P p.2).bind fun n => bif Nat.beq n 0 then none else fieldAV p.1 x
  | .field s _ f => f1 fun x => (fldOf P s f).bind fun p => (szOf P p.2).bind fun n => (aggOf P p.2).bind fun g => fieldV g n p.1 x
  | .extract _ i => f1 (extV i)
  | .makeFunc (.func f) first _ => fun xs => bif first.toList.isEmpty then some (pv (.clo f xs)) else none
  | .build t ps => fun xs => (zeroC P t).bind fun zs => (placesOf P t).bind fun places =>
      bif zs.all (·.oneCell') then (fillD (places[·]?) (zs.map constD) (zipI ps.toList (xs.map datum))).map fun cs => pv (.d (.agg cs)) else none
  | .buildSlice t len ps => fun xs => onDstE dst fun d => (elemOf' P t).bind fun e => (P.info? e).bind fun i => (i.zero).bind fun z =>
      bif z.cells.toList.all (·.oneCell') && Nat.beq z.cells.size i.size && Nat.blt 0 i.size && Nat.ble (len * i.size) 16777216 && (zipI ps.toList (xs.map datum)).all (fun p => Nat.blt p.1 len && Nat.beq p.2.cells.length i.size) then
        some ⟨.ref lev d len, some (lev, d, .arr i.size (setAll (List.replicate len (zeroD z)) (zipI ps.toList (xs.map datum)))), true⟩ else none
  | .alloc t => fun _ => onDstE dst fun d => (zeroC P t).bind fun vs => bif vs.all (·.oneCell') then some ⟨.ptr lev d 0, some (lev, d, .box (AVal.purgeL lev d (vs.map cellC))), true⟩ else none
  | .load ty _ => f1 (loadV P H ty)
  | .store ty _ _ => f2 (storeV P H lev ty)
  | .indexAddr t _ _ => f2 (idxV P H t)
  | .slice t _ lo hi _ => fc fun x r => bif isStr P t then slSV P t x (bnds lo hi r).1 (bnds lo hi r).2 else slLV P t (datum x) (bnds lo hi r).1 (bnds lo hi r).2
  | .call { callee := .builtin b, args, argTypes } => fun xs => callBV P ty b args.toList xs argTypes.toList
  | _ => fun _ => none

/-! ### The same as the step -/
section
variable {P : Program} {σ : St} {dst : Option Tmp} {ty : TypeId}
theorem pv_app (r : AVal) : (pv r).app σ dst = σ.put dst r := rfl
theorem scal1_ev (x : AVal) (f : Value → Option Value) : scal1 σ dst x f = ((toV x).bind fun u => (f u).map fun r => pv (ofConst r)).map (·.app σ dst) := by
  unfold scal1
  cases toV x with
  | none => rfl
  | some u => simp only [Option.bind_some]; cases f u <;> rfl
theorem scal2_ev (x y : AVal) (f : Value → Value → Option Value) : scal2 σ dst x y f = ((toV x).bind fun u => (toV y).bind fun v => (f u v).map fun r => pv (ofConst r)).map (·.app σ dst) := by
  unfold scal2
  cases toV x with
  | none => rfl
  | some u =>
    simp only [Option.bind_some]
    cases toV y with
    | none => rfl
    | some v => simp only [Option.bind_some]; cases f u v <;> rfl
theorem builtin_ev (b : Builtin) (ts : Array TypeId) (xs : Array Operand) : stBuiltin P σ dst b ts ty xs = (biV P b ts ty (xs.map isC) (xs.toList.map (evO σ))).map (·.app σ dst) := by
  unfold stBuiltin biV
  cases toVs (xs.toList.map (evO σ)) with
  | none => rfl
  | some us => simp only [Option.bind_some]; cases builtinV P b ts ty (xs.map isC) us <;> rfl
theorem load_ev {t : TypeId} {x : AVal} (hc : ∃ c, clLoad P σ.H t x = some c) : stLoad P σ dst t x = (loadV P σ.H t x).map (·.app σ dst) := by
  obtain ⟨c, hc⟩ := hc
  unfold stLoad loadV
  cases hn : szOf P t with
  | none => rfl
  | some n =>
  cases hg : aggOf P t with
  | none => rfl
  | some g =>
  simp only [Option.bind_some]
  cases x with
  | ptr l s off =>
    simp only [clLoad] at hc
    simp only
    cases hO : σ.H l s with
    | box cs =>
      rw [hO] at hc
      simp only [hg, Option.any_some] at hc
      cases g with
      | false => simp only [ldCells, boxV, cond_false]; cases (cs.drop off).head? <;> rfl
      | true =>
        simp only [Bool.not_true, Bool.false_or] at hc
        cases ha : allD cs with
        | false => rw [ha] at hc; cases hc
        | true =>
          simp only [ldCells, boxV, cond_true]
          cases Nat.ble n (cs.drop off).length with
          | false => rfl
          | true =>
            have hb : ∀ (xs : List AVal), allD xs = true ↔ ∀ x ∈ xs, isD x = true := by
              intro xs
              induction xs with
              | nil => simp [allD]
              | cons x r ih => simp [allD, ih]
            have h2 : allD ((cs.drop off).take n) = true := (hb _).2 fun x hx => (hb _).1 ha x (List.mem_of_mem_drop (List.mem_of_mem_take hx))
            simp only [cond_true, frzL_allD σ h2]
            rfl
    | _ => rfl
  | cptr cs => simp only; cases ldData g n cs <;> rfl
  | elt l s k i j =>
    simp only
    cases σ.H l s with
    | arr sz xs =>
      simp only [eltV]
      cases Nat.beq k xs.length with
      | false => rfl
      | true =>
        simp only [cond_true]
        cases xs[i]? with
        | none => rfl
        | some e => simp only [Option.bind_some]; cases ldData g n (e.cells.drop j) <;> rfl
    | frz xs =>
      simp only [eltV]
      cases Nat.beq k xs.length with
      | false => rfl
      | true =>
        simp only [cond_true]
        cases xs[i]? with
        | none => rfl
        | some e => simp only [Option.bind_some]; cases ldData g n (e.cells.drop j) <;> rfl
    | _ => rfl
  | _ => rfl
theorem store_ev {t : TypeId} {x y : AVal} (hc : ∃ c, clStore x y = some c) : stStore P σ dst t x y = (storeV P σ.H σ.lev t x y).map (·.app σ dst) := by
  obtain ⟨c, hc⟩ := hc
  unfold stStore storeV
  cases x with
  | ptr l s off =>
    simp only
    cases σ.H l s with
    | box cs =>
      simp only [stBoxV]
      cases avCells y with
      | none => rfl
      | some ys =>
        simp only [Option.bind_some]
        cases ((szOf P t).any (Nat.beq ys.length) && Nat.ble l σ.lev && AVal.belL (l + 1) ys && Nat.ble (off + ys.length) cs.length) <;> rfl
    | _ => rfl
  | elt l s k i j =>
    simp only [clStore] at hc
    cases hd : isD y with
    | false => rw [hd] at hc; cases hc
    | true =>
      simp only [frzV_isD σ hd, Option.bind_some]
      cases σ.H l s with
      | arr sz xs =>
        simp only [stEltV]
        cases xs[i]? with
        | none => rfl
        | some e =>
          simp only [Option.bind_some]
          cases ((szOf P t).any (Nat.beq (datum y).cells.length) && Nat.beq k xs.length && Nat.ble l σ.lev && Nat.ble (j + (datum y).cells.length) sz) <;> rfl
      | _ => rfl
  | _ => rfl
theorem idx_ev {t : TypeId} {x y : AVal} : stIndexA P σ dst t x y = (idxV P σ.H t x y).map (·.app σ dst) := by
  unfold stIndexA idxV
  cases elemOf' P t with
  | none => rfl
  | some e =>
  simp only [Option.bind_some]
  cases szOf P e with
  | none => rfl
  | some n =>
  simp only [Option.bind_some]
  cases intOfA y with
  | none => rfl
  | some z =>
  simp only [Option.bind_some]
  cases decide (0 ≤ z) with
  | false => rfl
  | true =>
  simp only [cond_true]
  cases x with
  | d d =>
    cases d with
    | list xs =>
      simp only
      cases xs[z.toNat]? with
      | none => rfl
      | some y => simp only [Option.bind_some]; cases Nat.beq y.cells.length n <;> rfl
    | _ => rfl
  | ref l s k =>
    simp only
    cases σ.H l s with
    | arr sz xs => simp only [idxO]; cases (Nat.beq k xs.length && Nat.beq sz n && Nat.blt z.toNat k) <;> rfl
    | frz xs =>
      simp only [idxO]
      cases xs[z.toNat]? with
      | none => rfl
      | some y => simp only [Option.bind_some]; cases (Nat.beq k xs.length && Nat.beq y.cells.length n) <;> rfl
    | _ => rfl
  | _ => rfl
theorem bnds_eq (lo hi : Option Operand) : bnds lo hi ((lo.toArray ++ hi.toArray).toList.map (evO σ)) = (lo.map (evO σ), hi.map (evO σ)) := by cases lo <;> cases hi <;> rfl
theorem optI_ev (d : Int) (x : Option Operand) : optInt σ d x = optIV d (x.map (evO σ)) := by cases x <;> rfl
theorem optV_ev (x : Option Operand) : optV σ x = optVV (x.map (evO σ)) := by cases x <;> rfl
theorem ev1_ok {op : Op} {c : Cl} (hc : cls P σ op = some c) : stepD P σ dst ty op = (ev1 P σ.H σ.lev dst ty op (opVals σ op)).map (·.app σ dst) := by
  cases op with
  | move x => rfl
  | assign x =>
    show (bif isNilS x then _ else _) = Option.map _ (bif isNilS x then _ else _)
    cases isNilS x with
    | false => rfl
    | true =>
      cases dst with
      | none => rfl
      | some d =>
        simp only [cond_true, onDst, onDstE, stNilSlice]
        cases elemOf' P ty with
        | none => rfl
        | some e => simp only [Option.bind_some]; cases szOf P e <;> rfl
  | pick c x y => show (boolOf (evO σ c)).map _ = Option.map _ ((boolOf (evO σ c)).map _); cases boolOf (evO σ c) <;> rfl
  | nilCheck x => show stNil σ dst x = (nilV (evO σ x)).map _; unfold stNil nilV; cases evO σ x <;> rfl
  | binOp op t x y u => exact scal2_ev _ _ _
  | unOp op t x => exact scal1_ev _ _
  | index t x y => exact scal2_ev _ _ _
  | fieldAddr s x f =>
    show stFieldA P σ dst s f (evO σ x) = Option.map _ _
    simp only [stFieldA, ev1, f1, opVals, Op.operands, List.map_cons, List.map_nil]
    cases fldOf P s f with
    | none => rfl
    | some p =>
    simp only [Option.bind_some]
    cases szOf P p.2 with
    | none => rfl
    | some n =>
    simp only [Option.bind_some]
    cases Nat.beq n 0 with
    | true => rfl
    | false =>
      simp only [cond_false]
      cases evO σ x with
      | cptr cs => simp only [fieldAV]; cases Nat.ble p.1 cs.length <;> rfl
      | _ => rfl
  | field s x f =>
    show stField P σ dst s f (evO σ x) = Option.map _ _
    simp only [stField, ev1, f1, opVals, Op.operands, List.map_cons, List.map_nil]
    cases fldOf P s f with
    | none => rfl
    | some p =>
    simp only [Option.bind_some]
    cases szOf P p.2 with
    | none => rfl
    | some n =>
    simp only [Option.bind_some]
    cases aggOf P p.2 with
    | none => rfl
    | some g =>
      simp only [Option.bind_some]
      cases evO σ x with
      | d d =>
        cases d with
        | agg cs => simp only [fieldV]; cases ldData g n (cs.drop p.1) <;> rfl
        | _ => rfl
      | _ => rfl
  | extract x i =>
    show stExtract σ dst x i = (extV i (evO σ x)).map _
    unfold stExtract extV
    cases evO σ x with
    | tup xs => simp only; cases xs[i]? <;> rfl
    | _ => rfl
  | makeFunc fv first caps =>
    cases fv with
    | func f =>
      show (bif first.toList.isEmpty then _ else _) = Option.map _ (bif first.toList.isEmpty then _ else _)
      cases hf : first.toList.isEmpty with
      | false => rfl
      | true =>
        have : first = #[] := by apply Array.ext'; simpa using hf
        subst this
        simp [stFunc, opVals, Op.operands, pv, Eff.app]
    | _ => rfl
  | alloc t =>
    cases dst with
    | none => rfl
    | some d =>
      show stAlloc P σ d t = Option.map _ (Option.bind _ _)
      unfold stAlloc
      cases zeroC P t with
      | none => rfl
      | some vs => simp only [Option.bind_some]; cases vs.all (·.oneCell') <;> rfl
  | build t ps =>
    have hx : opVals σ (.build t ps) = ps.toList.map fun p => evO σ p.2 := by simp [opVals, Op.operands, Function.comp_def]
    simp only [cls, cls1] at hc
    cases ha : allD (opVals σ (.build t ps)) with
    | false => rw [ha] at hc; cases hc
    | true =>
      show stBuild P σ dst t ps = Option.map _ _
      simp only [stBuild, ev1]
      rw [hx] at ha ⊢
      cases zeroC P t with
      | none => rfl
      | some zs =>
      simp only [Option.bind_some]
      cases placesOf P t with
      | none => rfl
      | some places =>
      simp only [Option.bind_some, frzL_allD σ ha]
      cases zs.all (·.oneCell') with
      | false => rfl
      | true =>
        simp only [cond_true]
        cases fillD (places[·]?) (zs.map constD) (zipI ps.toList (List.map datum (ps.toList.map fun p => evO σ p.2))) <;> rfl
  | buildSlice t len ps =>
    have hx : opVals σ (.buildSlice t len ps) = ps.toList.map fun p => evO σ p.2 := by simp [opVals, Op.operands, Function.comp_def]
    simp only [cls, cls1] at hc
    cases ha : allD (opVals σ (.buildSlice t len ps)) with
    | false => rw [ha] at hc; cases hc
    | true =>
      cases dst with
      | none => rfl
      | some d =>
      show stBuildSlice P σ d t len ps = Option.map _ _
      simp only [stBuildSlice, ev1, onDstE]
      rw [hx] at ha ⊢
      cases elemOf' P t with
      | none => rfl
      | some e =>
      simp only [Option.bind_some]
      cases P.info? e with
      | none => rfl
      | some i =>
      simp only [Option.bind_some]
      cases i.zero with
      | none => rfl
      | some z =>
      simp only [Option.bind_some, frzL_allD σ ha]
      generalize (z.cells.toList.all (·.oneCell') && Nat.beq z.cells.size i.size && Nat.blt 0 i.size && Nat.ble (len * i.size) 16777216 && (zipI ps.toList (List.map datum (ps.toList.map fun p => evO σ p.2))).all (fun p => Nat.blt p.1 len && Nat.beq p.2.cells.length i.size)) = b
      cases b <;> rfl
  | load t x => exact load_ev ⟨c, hc⟩
  | store t x y => exact store_ev ⟨c, hc⟩
  | indexAddr t x y => exact idx_ev
  | slice t x lo hi mx =>
    cases mx with
    | some m => obtain ⟨_, _, _, h⟩ := fc_some hc; cases h
    | none =>
      have hx : opVals σ (.slice t x lo hi none) = evO σ x :: (lo.toArray ++ hi.toArray).toList.map (evO σ) := by simp [opVals, Op.operands]
      simp only [cls, hx, cls1, fc, clSlice] at hc
      simp only [hx, ev1, fc, bnds_eq]
      show (bif isStr P t then _ else _) = _
      cases hs : isStr P t with
      | true =>
        simp only [cond_true, stSliceS, slSV, optV_ev]
        cases toV (evO σ x) with
        | none => rfl
        | some u =>
        simp only [Option.bind_some]
        cases optVV (lo.map (evO σ)) with
        | none => rfl
        | some l =>
        simp only [Option.bind_some]
        cases optVV (hi.map (evO σ)) with
        | none => rfl
        | some h => simp only [Option.bind_some]; cases sliceV P t u l h <;> rfl
      | false =>
        simp only [hs, Bool.false_or] at hc
        cases hd : isD (evO σ x) with
        | false => rw [hd] at hc; cases hc
        | true =>
          simp only [cond_false, stSliceL, slLV, frzV_isD σ hd, optI_ev]
          cases elemOf' P t with
          | none => rfl
          | some e =>
          simp only [Option.bind_some]
          cases szOf P e with
          | none => rfl
          | some n =>
          simp only [Option.bind_some]
          cases datum (evO σ x) with
          | list xs =>
            simp only
            cases optIV 0 (lo.map (evO σ)) with
            | none => rfl
            | some l =>
            simp only [Option.bind_some]
            cases optIV xs.length (hi.map (evO σ)) with
            | none => rfl
            | some h =>
              simp only [Option.bind_some]
              cases (decide (0 ≤ l) && decide (l ≤ h) && decide (h ≤ xs.length) && allLen n xs) <;> rfl
          | _ => rfl
  | call c =>
    obtain ⟨cal, args, ats⟩ := c
    cases cal with
    | builtin b =>
      show stCallB P σ dst ty b args.toList ats.toList = Option.map _ _
      have hx : opVals σ (.call { callee := .builtin b, args := args, argTypes := ats }) = args.toList.map (evO σ) := by simp [opVals, Op.operands, Call.operands]
      simp only [hx, ev1]
      unfold stCallB callBV
      cases b with
      | len =>
        cases args.toList with
        | nil => rfl
        | cons a r =>
          cases r with
          | cons _ _ => rfl
          | nil =>
            cases ats.toList with
            | nil => rfl
            | cons t r =>
              cases r with
              | cons _ _ => rfl
              | nil =>
                simp only [List.map_cons, List.map_nil]
                cases isStr P t with
                | true => exact builtin_ev _ _ _
                | false =>
                  simp only [cond_false, stLen]
                  cases elemOf' P t with
                  | none => rfl
                  | some e => simp only [Option.bind_some]; cases lenA (evO σ a) <;> rfl
      | max => simp only; have := builtin_ev (P := P) (σ := σ) (dst := dst) (ty := ty) .max ats args; simpa using this
      | min => simp only; have := builtin_ev (P := P) (σ := σ) (dst := dst) (ty := ty) .min ats args; simpa using this
      | _ => simp [cls, cls1, clCall] at hc
    | _ => simp [cls, cls1, clCall] at hc
  | _ => simp [cls, cls1, clCall] at hc
end
end Go.Fw
