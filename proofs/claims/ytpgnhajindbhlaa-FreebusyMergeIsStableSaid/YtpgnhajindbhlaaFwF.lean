/- Operations on memory: variables made, read, written; fields. -/
import Derived.Test.YtpgnhajindbhlaaFwE
import Derived.Laws.CopyRow
set_option autoImplicit false
namespace Go.Fw
def P2 {α β : Type} (R : α → β → Prop) (xs : List α) (ys : List β) : Prop := ys.length = xs.length ∧ ∀ (j : Nat) (x : α) (y : β), xs[j]? = some x → ys[j]? = some y → R x y
theorem P2.append {α β : Type} {R : α → β → Prop} {xs xs' : List α} {ys ys' : List β} (h : P2 R xs ys) (k : P2 R xs' ys') : P2 R (xs ++ xs') (ys ++ ys') := by
  refine ⟨by simp [h.1, k.1], fun j x y hx hy => ?_⟩
  rw [List.getElem?_append] at hx hy
  rw [h.1] at hy
  by_cases e : j < xs.length
  · rw [if_pos e] at hx hy; exact h.2 j x y hx hy
  · rw [if_neg e] at hx hy; exact k.2 _ x y hx hy
theorem P2.take {α β : Type} {R : α → β → Prop} {xs : List α} {ys : List β} (h : P2 R xs ys) (n : Nat) : P2 R (xs.take n) (ys.take n) := by
  refine ⟨by simp [h.1], fun j x y hx hy => ?_⟩
  rw [List.getElem?_take] at hx hy
  by_cases e : j < n
  · rw [if_pos e] at hx hy; exact h.2 j x y hx hy
  · rw [if_neg e] at hx; cases hx
theorem P2.drop {α β : Type} {R : α → β → Prop} {xs : List α} {ys : List β} (h : P2 R xs ys) (n : Nat) : P2 R (xs.drop n) (ys.drop n) := by
  refine ⟨by simp [h.1], fun j x y hx hy => ?_⟩
  rw [List.getElem?_drop] at hx hy
  exact h.2 _ x y hx hy
theorem P2.mono {α β : Type} {R S : α → β → Prop} {xs : List α} {ys : List β} (h : P2 R xs ys) (k : ∀ x y, R x y → S x y) : P2 S xs ys := ⟨h.1, fun j x y hx hy => k x y (h.2 j x y hx hy)⟩
theorem P2.map {α β γ : Type} {R : γ → β → Prop} {f : α → γ} {xs : List α} {ys : List β} (h : P2 (fun x y => R (f x) y) xs ys) : P2 R (xs.map f) ys := by
  refine ⟨by simp [h.1], fun j x y hx hy => ?_⟩
  rw [List.getElem?_map] at hx
  obtain ⟨z, hz, rfl⟩ := Option.map_eq_some_iff.1 hx
  exact h.2 j z y hz hy

theorem storeCells_ok (P : Program) (g : Nat) (t : TypeId) (fz : Nat × Nat) : ∀ (vs : List Value) (o i : Nat) (cur : List Value) (w : World), w.heap[g]? = some (.cells ⟨cur⟩ t fz) → (∀ j, j < cur.length → ¬ (fz.1 ≤ j ∧ j < fz.2)) →
    o + i + vs.length ≤ cur.length → (∀ v ∈ vs, v.oneCell' = true) → ∃ w', (storeCells ⟨g, o, none⟩ vs i).run P w = .ok () w' ∧
      w'.heap[g]? = some (.cells ⟨cur.take (o + i) ++ vs ++ cur.drop (o + i + vs.length)⟩ t fz) ∧ Ch (fun b => b = g) w w'
  | [], o, i, cur, w, hg, _, _, _ => ⟨w, rfl, by simp [hg], Ch.refl _ w⟩
  | v :: rest, o, i, cur, w, hg, hf, hl, h1 => by
    have hi : o + i < cur.length := by simp at hl; omega
    have hadd : (⟨g, o, none⟩ : Addr).add i = ⟨g, o + i, none⟩ := by unfold Addr.add; split <;> simp_all
    have hcell : w.cell? ⟨g, o + i, none⟩ = some cur[o + i] := by simp [World.cell?, hg, hi]
    have hfro : w.frozen? ⟨g, o + i, none⟩ = false := by
      have := hf (o + i) hi
      obtain ⟨lo, hi'⟩ := fz
      simp only [World.frozen?, hg, Bool.and_eq_false_iff, decide_eq_false_iff_not]
      simp only at this
      omega
    have hst : (store ((⟨g, o, none⟩ : Addr).add i) v).run P w = .ok () (w.setCell ⟨g, o + i, none⟩ v) := by
      rw [hadd, run_store P w _ v _ (h1 v (by simp)), hcell]
      simp [hfro]
    have hheap : (w.setCell ⟨g, o + i, none⟩ v).heap[g]? = some (.cells ⟨cur.set (o + i) v⟩ t fz) := by
      simp only [World.setCell, Array.getElem?_modify, if_true, hg, Option.map_some]
      simp
    have hch : Ch (fun b => b = g) w (w.setCell ⟨g, o + i, none⟩ v) := ⟨rfl, rfl, rfl, by simp, Nat.le_refl _, fun b hb hn => RowKit.Below.heap_setCell w _ v b hn⟩
    obtain ⟨w', hw1, hw2, hw3⟩ := storeCells_ok P g t fz rest o (i + 1) (cur.set (o + i) v) (w.setCell ⟨g, o + i, none⟩ v) hheap (by simpa using hf) (by simp at hl ⊢; omega) (fun x hx => h1 x (by simp [hx]))
    refine ⟨w', by simp only [storeCells, Sem.run_bind, hst, Result.andThen_ok, hw1], ?_, hch.trans hw3 (fun x hx => .inl hx)⟩
    rw [hw2]
    have e := list_seg_step cur (o + i) v rest (by simp at hl ⊢; omega)
    simp only [Option.some.injEq, Obj.cells.injEq, Array.mk.injEq, and_true]
    rw [show o + (i + 1) = o + i + 1 by omega, e]
    rfl

/-! ### The cells of a value -/
def avCells : AVal → Option (List AVal)
  | .d (.agg cs) => some (cs.map .d)
  | .any => none
  | .tup _ => none
  | x => some [x]
theorem avCells_ok {bad : Nat → Prop} {K : Kt} {w : World} {x : AVal} {v : Value} {cs : List AVal} (h : avCells x = some cs) (hr : Rv bad K w x v) :
    P2 (Rv bad K w) cs v.cells.toList ∧ (∀ (j : Nat) (y : Value), v.cells.toList[j]? = some y → y.oneCell' = true) := by
  have one : ∀ {y : AVal} {u : Value}, u.cells = #[u] → u.oneCell' = true → Rv bad K w y u → P2 (Rv bad K w) [y] u.cells.toList ∧ (∀ (j : Nat) (z : Value), u.cells.toList[j]? = some z → z.oneCell' = true) := by
    intro y u h1 h2 h3
    rw [h1]
    refine ⟨⟨rfl, fun j a b ha hb => ?_⟩, fun j z hz => ?_⟩
    · cases j with
      | zero => simp at ha hb; subst ha hb; exact h3
      | succ j => simp at ha
    · cases j with
      | zero => simp at hz; subst hz; exact h2
      | succ j => simp at hz
  cases hr with
  | any => simp [avCells] at h
  | nils => simp only [avCells, Option.some.injEq] at h; subst h; exact one rfl rfl .nils
  | d hd =>
    cases hd with
    | v hv =>
      simp only [avCells, Option.some.injEq] at h
      subst h
      refine one ?_ hv (.d (.v hv))
      cases v <;> first | rfl | simp [Value.oneCell'] at hv
    | agg hl h1 h2 =>
      rename_i ds vs
      simp only [avCells, Option.some.injEq] at h
      subst h
      exact ⟨P2.map ⟨hl, fun j a b ha hb => .d (h2 j a b ha hb)⟩, h1⟩
    | list hs hc hw h1 h2 ha => simp only [avCells, Option.some.injEq] at h; subst h; exact one rfl rfl (.d (.list hs hc hw h1 h2 ha))
  | tup => simp [avCells] at h
  | ptr hk => simp only [avCells, Option.some.injEq] at h; subst h; exact one rfl rfl (.ptr hk)
  | ref hk => simp only [avCells, Option.some.injEq] at h; subst h; exact one rfl rfl (.ref hk)
  | elt hk => simp only [avCells, Option.some.injEq] at h; subst h; exact one rfl rfl (.elt hk)
  | cptr h1 h2 h3 => simp only [avCells, Option.some.injEq] at h; subst h; exact one rfl rfl (.cptr h1 h2 h3)
  | clo h1 h2 => simp only [avCells, Option.some.injEq] at h; subst h; exact one rfl rfl (.clo h1 h2)
theorem avCells_bel {m : Nat} {x : AVal} {cs : List AVal} (h : avCells x = some cs) (hb : x.bel m = true) : AVal.belL m cs = true := by
  cases x with
  | any => simp [avCells] at h
  | tup => simp [avCells] at h
  | d y =>
    cases y with
    | agg ds =>
      simp only [avCells, Option.some.injEq] at h
      subst h
      refine (AVal.belL_iff _ _).2 (fun z hz => ?_)
      obtain ⟨u, _, rfl⟩ := List.mem_map.1 hz
      rfl
    | _ => simp only [avCells, Option.some.injEq] at h; subst h; simp [AVal.belL, AVal.bel]
  | _ => simp only [avCells, Option.some.injEq] at h; subst h; simp [AVal.belL]; exact hb

def stBox (σ : St) (d : Nat) (x : AVal) : Option St :=
  (avCells x).map fun cs => σ.alloc d (.box (AVal.purgeL σ.lev d cs)) (.ptr σ.lev d 0)
theorem box_ok {P : Program} {σ σ' : St} {o : Oper} {ty : TypeId} {x : Operand} {d : Nat} (ho : o.op = .box ty x) (hdd : o.dst = some d) (hd : okDst σ.n o.dst = true) (h : stBox σ d (evO σ x) = some σ') : OpOk P o σ σ' := by
  intro E a w K hR
  obtain ⟨cs, hcs, rfl⟩ := Option.map_eq_some_iff.1 h
  obtain ⟨h1, h2⟩ := avCells_ok hcs (hR.ev x)
  rw [hdd] at hd
  obtain ⟨K', hK'⟩ := hR.box (ty := ty) hd h1.1 h2 h1.2 (avCells_bel hcs (hR.evb x))
  refine ⟨_, _, K', .inl ?_, by rw [hdd]; exact hK'⟩
  simp [execOp, ho, Instr.box, newVar, newRow]

def cellC (x : Value) : AVal := match x with | .slice none 0 0 => .nils | x => .d (constD x)
def zeroC (P : Program) (t : TypeId) : Option (List Value) := ((P.info? t).bind (·.zero)).map fun z => z.cells.toList
theorem Rv.cellC {bad : Nat → Prop} {K : Kt} {w : World} {x : Value} (h : x.oneCell' = true) : Rv bad K w (Fw.cellC x) x := by
  unfold Fw.cellC
  split
  · exact .nils
  · exact .d (Rd.const h)
def stAlloc (P : Program) (σ : St) (d : Nat) (ty : TypeId) : Option St :=
  (zeroC P ty).bind fun vs => bif vs.all (·.oneCell') then some (σ.alloc d (.box (AVal.purgeL σ.lev d (vs.map cellC))) (.ptr σ.lev d 0)) else none
theorem alloc_ok {P : Program} {σ σ' : St} {o : Oper} {ty : TypeId} {d : Nat} (ho : o.op = .alloc ty) (hdd : o.dst = some d) (hd : okDst σ.n o.dst = true) (h : stAlloc P σ d ty = some σ') : OpOk P o σ σ' := by
  intro E a w K hR
  obtain ⟨vs, hvs, h⟩ := Option.bind_eq_some_iff.1 h
  obtain ⟨z, hz, rfl⟩ := Option.map_eq_some_iff.1 hvs
  obtain ⟨i, hi, hiz⟩ := Option.bind_eq_some_iff.1 hz
  cases hall : z.cells.toList.all (·.oneCell') with
  | false => rw [hall] at h; cases h
  | true =>
    rw [hall] at h
    simp only [cond_true, Option.some.injEq] at h
    subst h
    rw [List.all_eq_true] at hall
    rw [hdd] at hd
    have h1 : ∀ (j : Nat) (x : Value), z.cells.toList[j]? = some x → x.oneCell' = true := fun j x hx => hall x (List.mem_of_getElem? hx)
    obtain ⟨K', hK'⟩ := hR.box (ty := ty) (cs := z.cells.toList.map cellC) (vs := z.cells.toList) hd (by simp) h1 (fun j c x hc hx => by
      rw [List.getElem?_map, hx] at hc
      simp only [Option.map_some, Option.some.injEq] at hc
      subst hc
      exact Rv.cellC (h1 j x hx)) ((AVal.belL_iff _ _).2 (fun y hy => by
        obtain ⟨u, _, rfl⟩ := List.mem_map.1 hy
        unfold cellC
        split <;> rfl))
    refine ⟨_, _, K', .inl ?_, by rw [hdd]; exact hK'⟩
    simp [execOp, ho, Instr.alloc, zeroValue, typeInfo, hi, hiz, newVar, newRow]

/-! ### Reading -/
def ldCells (agg : Bool) (n : Nat) (σ : St) (cs : List AVal) : Option (AVal × St) :=
  bif agg then (bif Nat.ble n cs.length then (frzL σ (cs.take n)).map fun p => (.d (.agg p.1), p.2) else none)
  else cs.head?.map fun x => (x, σ)
def notAgg : DVal → Bool
  | .agg _ => false
  | _ => true
def ldData (agg : Bool) (n : Nat) (cs : List DVal) : Option DVal :=
  bif agg then (bif Nat.ble n cs.length then some (.agg (cs.take n)) else none) else cs.head?
def stLoad (P : Program) (σ : St) (dst : Option Tmp) (ty : TypeId) (x : AVal) : Option St :=
  (szOf P ty).bind fun n => (aggOf P ty).bind fun g =>
  match x with
  | .ptr l t off =>
    match σ.H l t with
    | .box cs => (ldCells g n σ (cs.drop off)).map fun p => p.2.put dst p.1
    | _ => none
  | .cptr cs => (ldData g n cs).map fun y => σ.put dst (.d y)
  | .elt l t k i j =>
    match σ.H l t with
    | .arr _ xs => bif Nat.beq k xs.length then (xs[i]?).bind fun e => (ldData g n (e.cells.drop j)).map fun y => σ.put dst (.d y) else none
    | .frz xs => bif Nat.beq k xs.length then (xs[i]?).bind fun e => (ldData g n (e.cells.drop j)).map fun y => σ.put dst (.d y) else none
    | _ => none
  | _ => none
theorem run_loadVar {P : Program} {w : World} {ty : TypeId} {n : Nat} {g : Bool} (hn : szOf P ty = some n) (hg : aggOf P ty = some g) {b o : Nat} {vs : List Value} (hl : g = true → vs.length = n) (hl' : g = false → vs.length = 1)
    (hc : ∀ (j : Nat) (u : Value), vs[j]? = some u → w.cell? ⟨b, o + j, none⟩ = some u) : (loadVar ty ⟨b, o, none⟩).run P w = .ok (if g then .agg ⟨vs⟩ else vs.headD default) w := by
  cases g with
  | true =>
    have h := run_loadCells_list (P := P) w ⟨b, o, none⟩ vs (fun j v hv => by rw [Addr.add_mid]; exact hc j v hv)
    rw [hl rfl] at h
    simp [loadVar, run_isAgg hg, run_sizeOf hn, h]
  | false =>
    have hl1 := hl' rfl
    match vs, hl1 with
    | [u], _ =>
      have := hc 0 u rfl
      simp only [Nat.add_zero] at this
      simp [loadVar, run_isAgg hg, this]
end Go.Fw
