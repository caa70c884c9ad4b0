/- What simp works off: drawn regions. -/
import Derived.Test.YtpgnhajindbhlaaFwQ
import Derived.Test.YtpgnhajindbhlaaFwV
set_option autoImplicit false
namespace Go.Fw
noncomputable def dK (P : Program) (ops : Array Oper) (O : OrdF) (Al : Nat → Bool) (N : St → Prop) (l : List Oper) (k : Nat) (rs : List Rec) (c : Option Cl) (σ' : St) : Prop := OkR O k c rs ∧ dOpsL P ops O Al N l (k + 1) (addR k c rs) σ'
noncomputable def dGo (P : Program) (ops : Array Oper) (O : OrdF) (Al : Nat → Bool) (N : St → Prop) (o : Oper) (l : List Oper) (k : Nat) (rs : List Rec) (σ : St) (b : Bool) : Prop :=
  aIf b (dC P (Al k = true) (dK P ops O Al N l k rs) o σ (callD σ o.op)) (okDst σ.n o.dst = true ∧ dK P ops O Al N l k rs (some .pure) (σ.put o.dst (.tup [])))
theorem dGo_split {P : Program} {ops : Array Oper} {O : OrdF} {Al : Nat → Bool} {N : St → Prop} {o : Oper} {l : List Oper} {k : Nat} {rs : List Rec} {σ : St} {b : Bool} (h : b = true → dGo P ops O Al N o l k rs σ true) (g : b = false → dGo P ops O Al N o l k rs σ false) : dGo P ops O Al N o l k rs σ b := by
  cases b
  · exact g rfl
  · exact h rfl
theorem dGo_splitN {P : Program} {ops : Array Oper} {O : OrdF} {Al : Nat → Bool} {N : St → Prop} {o : Oper} {l : List Oper} {k : Nat} {rs : List Rec} {σ : St} {b : Bool} (h : b = true → dGo P ops O Al N o l k rs σ false) (g : b = false → dGo P ops O Al N o l k rs σ true) : dGo P ops O Al N o l k rs σ (!b) := by
  cases b
  · exact g rfl
  · exact h rfl
section
variable (P : Program) (ops : Array Oper) (O : OrdF) (Al : Nat → Bool) (N : St → Prop) (σ : St) (k : Nat) (rs : List Rec) (A : Prop) (K : Option Cl → St → Prop) (dst : Option Tmp)
@[go_sem] theorem dOpsL_nil : dOpsL P ops O Al N [] k rs σ = N σ := rfl
@[go_sem] theorem dOpsL_cons (o : Oper) (l : List Oper) : dOpsL P ops O Al N (o :: l) k rs σ = aG (dGo P ops O Al N o l k rs σ) (gdOf ops σ o) := rfl
@[go_sem] theorem dGo_true (o : Oper) (l : List Oper) : dGo P ops O Al N o l k rs σ true = dC P (Al k = true) (dK P ops O Al N l k rs) o σ (callD σ o.op) := aIf_true _ _
@[go_sem] theorem dGo_false (o : Oper) (l : List Oper) : dGo P ops O Al N o l k rs σ false = (okDst σ.n o.dst = true ∧ dK P ops O Al N l k rs (some .pure) (σ.put o.dst (.tup []))) := aIf_false _ _
@[go_sem] theorem dC_none (o : Oper) : dC P A K o σ none = dS A K (cls P σ o.op) (stepOp P σ o) := rfl
@[go_sem] theorem dC_some (o : Oper) (f : FuncId) (args : List AVal) : dC P A K o σ (some (f, args)) = (okDst σ.n o.dst = true ∧ DCall P A K σ o.dst f args) := rfl
@[go_sem] theorem dS_none (c : Option Cl) : dS A K c none = False := by cases c <;> rfl
@[go_sem] theorem dS_alone : dS A K none (some σ) = (A ∧ K none σ) := rfl
@[go_sem] theorem dS_some (c : Cl) : dS A K (some c) (some σ) = K (some c) σ := rfl
@[go_sem] theorem dK_app (l : List Oper) (c : Option Cl) : dK P ops O Al N l k rs c σ = (OkR O k c rs ∧ dOpsL P ops O Al N l (k + 1) (addR k c rs) σ) := rfl
@[go_sem] theorem OkR_pure : OkR O k (some .pure) rs = True := rfl
@[go_sem] theorem OkR_new : OkR O k (some .new) rs = True := rfl
@[go_sem] theorem OkR_none : OkR O k none rs = True := rfl
@[go_sem] theorem OkR_mem (l t : Nat) (w : Bool) : OkR O k (some (.mem l t w)) rs = (recB O k l t w rs = true) := rfl
@[go_sem] theorem addR_pure : addR k (some .pure) rs = rs := rfl
@[go_sem] theorem addR_new : addR k (some .new) rs = rs := rfl
@[go_sem] theorem addR_none : addR k none rs = rs := rfl
@[go_sem] theorem addR_mem (l t : Nat) (w : Bool) : addR k (some (.mem l t w)) rs = (k, l, t, w) :: rs := rfl
@[go_sem] theorem recB_nil (l t : Nat) (w : Bool) : recB O k l t w [] = true := rfl
@[go_sem] theorem recB_cons (l t : Nat) (w : Bool) (j l' t' : Nat) (w' : Bool) : recB O k l t w ((j, l', t', w') :: rs) = ((bif (l == l') && (t == t') && (w || w') then O k j else true) && recB O k l t w rs) := by simp only [recB, nbeq]
@[go_sem] theorem cls_move (x : Operand) : cls P σ (.move x) = some .pure := rfl
@[go_sem] theorem cls_assign (x : Operand) : cls P σ (.assign x) = some (bif isNilS x then .new else .pure) := rfl
@[go_sem] theorem cls_pick (c x y : Operand) : cls P σ (.pick c x y) = some .pure := rfl
@[go_sem] theorem cls_nilCheck (x : Operand) : cls P σ (.nilCheck x) = some .pure := rfl
@[go_sem] theorem cls_binOp (op : BinOp) (t : TypeId) (x y : Operand) (u : TypeId) : cls P σ (.binOp op t x y u) = some .pure := rfl
@[go_sem] theorem cls_unOp (op : UnOp) (t : TypeId) (x : Operand) : cls P σ (.unOp op t x) = some .pure := rfl
@[go_sem] theorem cls_fieldAddr (s : TypeId) (x : Operand) (f : Nat) : cls P σ (.fieldAddr s x f) = some .pure := rfl
@[go_sem] theorem cls_field (s : TypeId) (x : Operand) (f : Nat) : cls P σ (.field s x f) = some .pure := rfl
@[go_sem] theorem cls_extract (x : Operand) (i : Nat) : cls P σ (.extract x i) = some .pure := rfl
@[go_sem] theorem cls_index (t : TypeId) (x y : Operand) : cls P σ (.index t x y) = some .pure := rfl
@[go_sem] theorem cls_makeFunc (f : Fn) (a b : Array Operand) : cls P σ (.makeFunc f a b) = some .pure := rfl
@[go_sem] theorem cls_alloc (t : TypeId) : cls P σ (.alloc t) = some .new := rfl
@[go_sem] theorem cls_build (t : TypeId) (ps : Array (Nat × Operand)) : cls P σ (.build t ps) = bif allD (ps.toList.map fun p => evO σ p.2) then some .pure else none := by
  have : opVals σ (.build t ps) = ps.toList.map fun p => evO σ p.2 := by simp [opVals, Op.operands, Function.comp_def]
  simp only [cls, cls1, this]
@[go_sem] theorem cls_buildSlice (t : TypeId) (n : Nat) (ps : Array (Nat × Operand)) : cls P σ (.buildSlice t n ps) = bif allD (ps.toList.map fun p => evO σ p.2) then some .new else none := by
  have : opVals σ (.buildSlice t n ps) = ps.toList.map fun p => evO σ p.2 := by simp [opVals, Op.operands, Function.comp_def]
  simp only [cls, cls1, this]
def clBox (P : Program) (ty : TypeId) (l t : Nat) : AObj → Option Cl
  | .box cs => bif (aggOf P ty).any (fun g => !g) || allD cs then some (.mem l t false) else none
  | _ => none
@[go_sem] theorem cls_load (t : TypeId) (x : Operand) : cls P σ (.load t x) = clLoad P σ.H t (evO σ x) := rfl
@[go_sem] theorem clLoad_ptr' (H : Hp) (ty : TypeId) (l t off : Nat) : clLoad P H ty (.ptr l t off) = clBox P ty l t (H l t) := by simp only [clLoad, clBox]; cases H l t <;> rfl
@[go_sem] theorem clBox_box (ty : TypeId) (l t : Nat) (cs : List AVal) : clBox P ty l t (.box cs) = bif (aggOf P ty).any (fun g => !g) || allD cs then some (.mem l t false) else none := rfl
@[go_sem] theorem clLoad_elt (H : Hp) (ty : TypeId) (l t k i j : Nat) : clLoad P H ty (.elt l t k i j) = some (.mem l t false) := rfl
@[go_sem] theorem clLoad_cptr (H : Hp) (ty : TypeId) (cs : List DVal) : clLoad P H ty (.cptr cs) = some .pure := rfl
@[go_sem] theorem cls_store (t : TypeId) (x y : Operand) : cls P σ (.store t x y) = clStore (evO σ x) (evO σ y) := rfl
@[go_sem] theorem clStore_ptr (l t off : Nat) (y : AVal) : clStore (.ptr l t off) y = some (.mem l t true) := rfl
@[go_sem] theorem clStore_elt (l t k i j : Nat) (y : AVal) : clStore (.elt l t k i j) y = bif isD y then some (.mem l t true) else none := rfl
@[go_sem] theorem cls_indexAddr (t : TypeId) (x y : Operand) : cls P σ (.indexAddr t x y) = clIdx (evO σ x) := rfl
@[go_sem] theorem clIdx_ref (l t n : Nat) : clIdx (.ref l t n) = some (.mem l t false) := rfl
@[go_sem] theorem clIdx_d (x : DVal) : clIdx (.d x) = some .pure := rfl
@[go_sem] theorem cls_slice (t : TypeId) (x : Operand) (lo hi : Option Operand) : cls P σ (.slice t x lo hi none) = bif isStr P t || isD (evO σ x) then some .pure else none := by
  have : opVals σ (.slice t x lo hi none) = evO σ x :: (lo.toArray ++ hi.toArray).toList.map (evO σ) := by simp [opVals, Op.operands]
  simp only [cls, cls1, this, fc, clSlice]
@[go_sem] theorem cls_len (a : Array Operand) (t : Array TypeId) : cls P σ (.call { callee := .builtin .len, args := a, argTypes := t }) = some .pure := rfl
@[go_sem] theorem cls_min (a : Array Operand) (t : Array TypeId) : cls P σ (.call { callee := .builtin .min, args := a, argTypes := t }) = some .pure := rfl
@[go_sem] theorem cls_max (a : Array Operand) (t : Array TypeId) : cls P σ (.call { callee := .builtin .max, args := a, argTypes := t }) = some .pure := rfl
@[go_sem] theorem cls_append (a : Array Operand) (t : Array TypeId) : cls P σ (.call { callee := .builtin .append, args := a, argTypes := t }) = none := rfl
@[go_sem] theorem cls_makeSlice (t : TypeId) (a b : Operand) : cls P σ (.makeSlice t a b) = none := rfl
@[go_sem] theorem cls_box (t : TypeId) (a : Operand) : cls P σ (.box t a) = none := rfl
@[go_sem] theorem cls_convert (s t : TypeId) (a : Operand) : cls P σ (.convert s t a) = none := rfl
@[go_sem] theorem isD_d (x : DVal) : isD (.d x) = true := rfl
@[go_sem] theorem isD_nils : isD .nils = true := rfl
@[go_sem] theorem isD_ref (l t n : Nat) : isD (.ref l t n) = false := rfl
@[go_sem] theorem isD_ptr (l t n : Nat) : isD (.ptr l t n) = false := rfl
@[go_sem] theorem isD_cptr (cs : List DVal) : isD (.cptr cs) = false := rfl
@[go_sem] theorem datum_d (x : DVal) : datum (.d x) = x := rfl
@[go_sem] theorem datum_nils : datum .nils = .list [] := rfl
@[go_sem] theorem allD_nil : allD [] = true := rfl
@[go_sem] theorem allD_cons (x : AVal) (r : List AVal) : allD (x :: r) = (isD x && allD r) := rfl
@[go_sem] theorem allD_mapd (xs : List DVal) : allD (xs.map .d) = true := by
  induction xs with
  | nil => rfl
  | cons x r ih => simp [allD, isD, ih]
@[go_sem] theorem purges_nil : σ.purges [] = σ := rfl
@[go_sem] theorem purges_cons (n lev : Nat) (T : List (Nat × AVal)) (H : Hp) (d : Nat) (r : List Nat) : St.purges ⟨n, lev, T, H⟩ (d :: r) = St.purges ⟨n, lev, purgeT lev d T, H.purge lev d⟩ r := rfl
@[go_sem] theorem Hp.purge_app (H : Hp) (a b l t : Nat) : (H.purge a b) l t = (H l t).purge a b := rfl
end
def newC : Option Tmp → Bool → List Nat → List Nat
  | some d, true, r => d :: r
  | _, _, r => r
def newL : List Oper → List Nat
  | [] => []
  | o :: l => newC o.dst (newK o.op) (newL l)
theorem awp_draw' {P : Program} {Q : Exit → St → Prop} {σ : St} {id : Nat} {ops : Array Oper} (hm : P.follows .mixedOrders = true) (hB : drawB ops (newL ops.toList) = true)
    (h : ∀ (O : OrdF) (Al : Nat → Bool), O = ordB (masks ops) → Al = aloneB ops (masks ops) → dOpsL P ops O Al (Q .normal) ops.toList 0 [] (σ.purges (newL ops.toList))) : awp P (.region id ops true) Q σ := awp_draw _ hm hB h
@[go_sem] theorem newL_nil : newL [] = [] := rfl
@[go_sem] theorem newL_cons (o : Oper) (l : List Oper) : newL (o :: l) = newC o.dst (newK o.op) (newL l) := rfl
@[go_sem] theorem newC_t (d : Nat) (r : List Nat) : newC (some d) true r = d :: r := rfl
@[go_sem] theorem newC_f (x : Option Tmp) (r : List Nat) : newC x false r = r := by cases x <;> rfl
@[go_sem] theorem newK_assign (x : Operand) : newK (.assign x) = isNilS x := rfl
@[go_sem] theorem newK_alloc (t : TypeId) : newK (.alloc t) = true := rfl
@[go_sem] theorem newK_buildSlice (t : TypeId) (n : Nat) (ps : Array (Nat × Operand)) : newK (.buildSlice t n ps) = true := rfl
@[go_sem] theorem newK_move (x : Operand) : newK (.move x) = false := rfl
@[go_sem] theorem newK_pick (c x y : Operand) : newK (.pick c x y) = false := rfl
@[go_sem] theorem newK_nilCheck (x : Operand) : newK (.nilCheck x) = false := rfl
@[go_sem] theorem newK_binOp (op : BinOp) (t : TypeId) (x y : Operand) (u : TypeId) : newK (.binOp op t x y u) = false := rfl
@[go_sem] theorem newK_unOp (op : UnOp) (t : TypeId) (x : Operand) : newK (.unOp op t x) = false := rfl
@[go_sem] theorem newK_fieldAddr (s : TypeId) (x : Operand) (f : Nat) : newK (.fieldAddr s x f) = false := rfl
@[go_sem] theorem newK_field (s : TypeId) (x : Operand) (f : Nat) : newK (.field s x f) = false := rfl
@[go_sem] theorem newK_extract (x : Operand) (i : Nat) : newK (.extract x i) = false := rfl
@[go_sem] theorem newK_index (t : TypeId) (x y : Operand) : newK (.index t x y) = false := rfl
@[go_sem] theorem newK_makeFunc (f : Fn) (a b : Array Operand) : newK (.makeFunc f a b) = false := rfl
@[go_sem] theorem newK_build (t : TypeId) (ps : Array (Nat × Operand)) : newK (.build t ps) = false := rfl
@[go_sem] theorem newK_load (t : TypeId) (x : Operand) : newK (.load t x) = false := rfl
@[go_sem] theorem newK_store (t : TypeId) (x y : Operand) : newK (.store t x y) = false := rfl
@[go_sem] theorem newK_indexAddr (t : TypeId) (x y : Operand) : newK (.indexAddr t x y) = false := rfl
@[go_sem] theorem newK_slice (t : TypeId) (x : Operand) (lo hi mx : Option Operand) : newK (.slice t x lo hi mx) = false := rfl
@[go_sem] theorem newK_call (c : Call) : newK (.call c) = false := rfl
@[go_sem] theorem newK_box (t : TypeId) (a : Operand) : newK (.box t a) = false := rfl
@[go_sem] theorem newK_convert (s t : TypeId) (a : Operand) : newK (.convert s t a) = false := rfl
@[go_sem] theorem newK_makeSlice (t : TypeId) (a b : Operand) : newK (.makeSlice t a b) = false := rfl
/-! ### Loops' heads -/
def lkO : List (Nat × AObj) → Nat → AObj
  | [], _ => .dead
  | (x, o) :: r, t => bif x == t then o else lkO r t
def objs (H : Hp) (lev : Nat) : List Nat → List (Nat × AObj)
  | [] => []
  | t :: r => (t, H lev t) :: objs H lev r
/-- Objects of one level, told by a list. -/
def hpL (lev : Nat) (os : List (Nat × AObj)) (H : Hp) : Hp := fun l t => bif l == lev then lkO os t else H l t
theorem lkO_objs (H : Hp) (lev : Nat) : ∀ (ls : List Nat) (t : Nat), lkO (objs H lev ls) t = bif inL ls t then H lev t else .dead
  | [], _ => rfl
  | x :: r, t => by
    simp only [objs, lkO, inL, nbeq]
    cases h : (x == t) with
    | true => have e : x = t := by simpa using h
              subst e; rfl
    | false => simpa using lkO_objs H lev r t
section
variable (H : Hp) (lev : Nat) (os : List (Nat × AObj))
@[go_sem] theorem keep_hpL (ls : List Nat) : H.keep lev ls = hpL lev (objs H lev ls) H := by
  funext l t
  simp only [Hp.keep, hpL, lkO_objs]
  cases h : (l == lev) with
  | true => have e : l = lev := by simpa using h
            subst e; rfl
  | false => rfl
@[go_sem] theorem hpL_app (l t : Nat) : (hpL lev os H) l t = bif l == lev then lkO os t else H l t := rfl
@[go_sem] theorem hpL_alloc (t : Nat) (o : AObj) : hpL lev os (H.alloc lev t o) = hpL lev os H := by
  funext l s
  simp only [hpL, Hp.alloc]
  cases l == lev <;> rfl
@[go_sem] theorem hpL_set (t : Nat) (o : AObj) : hpL lev os (H.set lev t o) = hpL lev os H := by
  funext l s
  simp only [hpL, Hp.set]
  cases l == lev <;> rfl
@[go_sem] theorem hpL_hpL (os' : List (Nat × AObj)) : hpL lev os (hpL lev os' H) = hpL lev os H := by
  funext l s
  simp only [hpL]
  cases l == lev <;> rfl
@[go_sem] theorem keep_mk (n : Nat) (T : List (Nat × AVal)) (ts ls : List Nat) : St.keep ⟨n, lev, T, H⟩ ts ls = ⟨n, lev, keepT T ts, hpL lev (objs H lev ls) H⟩ := by rw [← keep_hpL]; rfl
end
attribute [go_sem] lkO objs keepT inL
@[go_sem] theorem nat_nn (k : Nat) : (0 ≤ (k : Int)) = True := by simp
/-- The rest of the code, bundled: no hypothesis for simp. -/
structure Nx (P : Program) (y : Code) (Q : Exit → St → Prop) where
  f : St → Prop
  h : ∀ σ, awp P y Q σ → f σ
theorem awp_seq_n {P : Program} {Q : Exit → St → Prop} {σ : St} {x y : Code} (h : ∀ N : Nx P y Q, awp P x (AThen N.f Q) σ) : awp P (.seq x y) Q σ := awp_seq_k fun N hN => h ⟨N, hN⟩
theorem goN {P : Program} {y : Code} {Q : Exit → St → Prop} {σ : St} (N : Nx P y Q) (h : awp P y Q σ) : N.f σ := N.h σ h
/-- The rest of the code. -/
theorem goK {P : Program} {y : Code} {Q : Exit → St → Prop} {N : St → Prop} {σ : St} (hN : ∀ σ, awp P y Q σ → N σ) (h : awp P y Q σ) : N σ := hN σ h
/-- A call of data. -/
theorem dcall {P : Program} {A : Prop} {K : Option Cl → St → Prop} {σ : St} {dst : Option Tmp} {f : FuncId} {args : List AVal} {ds : List DVal} {r : AVal} (hc : PCalls P f ds r) (ha : allD args = true) (hd : args.map datum = ds) (hb : r.bel 0 = true)
    (h : K (some .pure) (σ.put dst r)) : DCall P A K σ dst f args := .inl ⟨r, ha, hb, by rw [hd]; exact hc, h⟩
theorem dcall_alone {P : Program} {A : Prop} {K : Option Cl → St → Prop} {σ : St} {dst : Option Tmp} {f : FuncId} {args : List AVal} (hA : A) (h : CallOk P σ f args dst (K none)) : DCall P A K σ dst f args := .inr ⟨hA, h⟩
end Go.Fw
