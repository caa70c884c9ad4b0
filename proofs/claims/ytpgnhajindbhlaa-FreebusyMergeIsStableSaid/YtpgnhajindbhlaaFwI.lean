/- Fields' addresses, fields, elements' addresses, lengths, parts of slices. -/
import Derived.Test.YtpgnhajindbhlaaFwH
set_option autoImplicit false
namespace Go.Fw
def stFieldA (P : Program) (σ : St) (dst : Option Tmp) (s : TypeId) (f : Nat) (x : AVal) : Option St :=
  (fldOf P s f).bind fun p => (szOf P p.2).bind fun n => bif Nat.beq n 0 then none else
  match x with
  | .ptr l t off => some (σ.put dst (.ptr l t (off + p.1)))
  | .elt l t k i j => some (σ.put dst (.elt l t k i (j + p.1)))
  | .cptr cs => bif Nat.ble p.1 cs.length then some (σ.put dst (.cptr (cs.drop p.1))) else none
  | _ => none
theorem run_fieldAddr {P : Program} {a : Act} {w : World} {o : Oper} {s : TypeId} {x : Operand} {f off n b q : Nat} {ty : TypeId} (ho : o.op = .fieldAddr s x f) (hf : fldOf P s f = some (off, ty)) (hn : szOf P ty = some n) (h0 : Nat.beq n 0 = false)
    (hx : a.eval x = .pointer (some ⟨b, q, none⟩)) : (execOp a.eval o).run P w = .ok (.value (.pointer (some ⟨b, q + off, none⟩))) w := by
  unfold fldOf at hf
  cases hu : P.underlying s with
  | none => rw [hu] at hf; cases hf
  | some d =>
    rw [hu] at hf
    cases d with
    | struct fs =>
      simp only at hf
      obtain ⟨fl, hfl, he⟩ := Option.map_eq_some_iff.1 hf
      simp only [Prod.mk.injEq] at he
      obtain ⟨rfl, rfl⟩ := he
      have hn0 : n ≠ 0 := fun e => by rw [e] at h0; cases h0
      simp [execOp, ho, Instr.fieldAt, underlying, hu, hfl, hx, Instr.sureAddr, fieldPlace, run_sizeOf hn, hn0, Addr.addo]
    | _ => cases hf
theorem fieldA_ok {P : Program} {σ σ' : St} {o : Oper} {s : TypeId} {x : Operand} {f : Nat} (ho : o.op = .fieldAddr s x f) (hd : okDst σ.n o.dst = true) (h : stFieldA P σ o.dst s f (evO σ x) = some σ') : OpOk P o σ σ' := by
  intro E a w K hR
  unfold stFieldA at h
  obtain ⟨⟨off, ty⟩, hf, h⟩ := Option.bind_eq_some_iff.1 h
  obtain ⟨n, hn, h⟩ := Option.bind_eq_some_iff.1 h
  cases h0 : Nat.beq n 0 with
  | true => rw [h0] at h; cases h
  | false =>
    rw [h0] at h
    simp only [cond_false] at h
    have hx := hR.ev x
    have hb := hR.evb x
    generalize hv : a.eval x = v at hx
    generalize evO σ x = q at hx hb h
    cases hx with
    | ptr hk =>
      simp only [Option.some.injEq] at h
      subst h
      exact ⟨_, w, K, .inl (run_fieldAddr ho hf hn h0 hv), hR.put_pure hd (.ptr hk) hb⟩
    | elt hk =>
      rename_i l t k i j cap sz b o
      simp only [Option.some.injEq] at h
      subst h
      refine ⟨_, w, K, .inl (run_fieldAddr ho hf hn h0 hv), hR.put_pure hd ?_ hb⟩
      rw [show o + i * sz + j + off = o + i * sz + (j + off) by omega]
      exact .elt hk
    | cptr hw h1 hr =>
      rename_i cs b o f'
      simp only at h
      cases hc : Nat.ble off cs.length with
      | false => rw [hc] at h; cases h
      | true =>
        rw [hc] at h
        simp only [cond_true, Option.some.injEq] at h
        subst h
        have hle := Nat.le_of_ble_eq_true hc
        refine ⟨_, w, K, .inl (run_fieldAddr ho hf hn h0 hv), hR.put_pure hd (.cptr (f := fun j => f' (off + j)) (fun j hj => ?_) (fun j hj => ?_) (fun j c hj => ?_)) rfl⟩
        · rw [List.length_drop] at hj
          have := hw (off + j) (by omega)
          rwa [← Nat.add_assoc] at this
        · rw [List.length_drop] at hj
          exact h1 _ (by omega)
        · rw [List.getElem?_drop] at hj
          exact hr _ c hj
    | _ => cases h

def stField (P : Program) (σ : St) (dst : Option Tmp) (s : TypeId) (f : Nat) (x : AVal) : Option St :=
  (fldOf P s f).bind fun p => (szOf P p.2).bind fun n => (aggOf P p.2).bind fun g =>
  match x with
  | .d (.agg cs) => (ldData g n (cs.drop p.1)).map fun y => σ.put dst (.d y)
  | _ => none
theorem field_ok {P : Program} {σ σ' : St} {o : Oper} {s : TypeId} {x : Operand} {f : Nat} (ho : o.op = .field s x f) (hd : okDst σ.n o.dst = true) (h : stField P σ o.dst s f (evO σ x) = some σ') : OpOk P o σ σ' := by
  intro E a w K hR
  unfold stField at h
  obtain ⟨⟨off, ty⟩, hf, h⟩ := Option.bind_eq_some_iff.1 h
  obtain ⟨n, hn, h⟩ := Option.bind_eq_some_iff.1 h
  obtain ⟨g, hg, h⟩ := Option.bind_eq_some_iff.1 h
  have hx := hR.ev x
  generalize hv : a.eval x = v at hx
  generalize evO σ x = q at hx h
  cases hx with
  | d hr =>
    cases hr with
    | agg hl h1 h2 =>
      rename_i cs vs
      simp only at h
      obtain ⟨y, hy, rfl⟩ := Option.map_eq_some_iff.1 h
      unfold fldOf at hf
      cases hu : P.underlying s with
      | none => rw [hu] at hf; cases hf
      | some d =>
        rw [hu] at hf
        cases d with
        | struct fs =>
          simp only at hf
          obtain ⟨fl, hfl, he⟩ := Option.map_eq_some_iff.1 hf
          simp only [Prod.mk.injEq] at he
          obtain ⟨rfl, rfl⟩ := he
          cases g with
          | true =>
            simp only [ldData, cond_true] at hy
            cases hc : Nat.ble n (cs.drop fl.offset).length with
            | false => rw [hc] at hy; cases hy
            | true =>
              rw [hc] at hy
              simp only [cond_true, Option.some.injEq] at hy
              subst hy
              have hle := Nat.le_of_ble_eq_true hc
              rw [List.length_drop] at hle
              refine ⟨.agg ⟨(vs.drop fl.offset).take n⟩, w, K, .inl ?_, hR.put_pure hd (.d (Rd.agg ?_ (fun j z hz => ?_) (P2.take (P2.drop ⟨hl, h2⟩ _) _).2)) rfl⟩
              · simp [execOp, ho, Instr.field, underlying, hu, hfl, hv, asAgg, part, run_isAgg hg, run_sizeOf hn]
              · simp [hl]
              · rw [List.getElem?_take] at hz
                split at hz
                · rw [List.getElem?_drop] at hz; exact h1 _ z hz
                · cases hz
          | false =>
            simp only [ldData, cond_false] at hy
            rw [List.head?_drop] at hy
            have hlt : fl.offset < vs.length := by rw [hl]; exact (List.getElem?_eq_some_iff.1 hy).1
            refine ⟨vs[fl.offset], w, K, .inl ?_, hR.put_pure hd (.d (h2 _ y _ hy (List.getElem?_eq_getElem hlt))) rfl⟩
            simp [execOp, ho, Instr.field, underlying, hu, hfl, hv, asAgg, part, run_isAgg hg, hlt]
        | _ => cases hf
    | _ => cases h
  | _ => cases h

def intOfA : AVal → Option Int
  | .d (.v (.int _ z)) => some z
  | _ => none
theorem intOfA_eq {bad : Nat → Prop} {K : Kt} {w : World} {x : AVal} {z : Int} {v : Value} (h : intOfA x = some z) (hr : Rv bad K w x v) : ∃ k, v = .int k z := by
  cases hr with
  | d hd =>
    cases hd with
    | v _ =>
      unfold intOfA at h
      split at h
      · rename_i k z' e
        simp only [Option.some.injEq] at h
        simp only [AVal.d.injEq, DVal.v.injEq] at e
        exact ⟨k, by rw [e, h]⟩
      · cases h
    | _ => simp [intOfA] at h
  | _ => simp [intOfA] at h
def elemOf' (P : Program) (t : TypeId) : Option TypeId := match P.underlying t with | some (.slice e) => some e | _ => none
theorem elemOf_eq {P : Program} {t e : TypeId} (h : elemOf' P t = some e) : P.underlying t = some (.slice e) := by
  unfold elemOf' at h
  split at h
  · simp only [Option.some.injEq] at h; subst h; assumption
  · cases h
def stIndexA (P : Program) (σ : St) (dst : Option Tmp) (t : TypeId) (x ix : AVal) : Option St :=
  (elemOf' P t).bind fun e => (szOf P e).bind fun n => (intOfA ix).bind fun z => bif decide (0 ≤ z) then
  (match x with
  | .d (.list xs) => (xs[z.toNat]?).bind fun y => bif Nat.beq y.cells.length n then some (σ.put dst (.cptr y.cells)) else none
  | .ref l s k =>
    match σ.H l s with
    | .arr sz xs => bif Nat.beq k xs.length && Nat.beq sz n && Nat.blt z.toNat k then some (σ.put dst (.elt l s k z.toNat 0)) else none
    | .frz xs => (xs[z.toNat]?).bind fun y => bif Nat.beq k xs.length && Nat.beq y.cells.length n then some (σ.put dst (.cptr y.cells)) else none
    | _ => none
  | _ => none) else none
theorem run_indexAddr {P : Program} {a : Act} {w : World} {o : Oper} {t e : TypeId} {x ix : Operand} {n b q len cap : Nat} {z : Int} {k : IntKind} (ho : o.op = .indexAddr t x ix) (he : P.underlying t = some (.slice e)) (hn : szOf P e = some n)
    (hx : a.eval x = .slice (some ⟨b, q, none⟩) len cap) (hi : a.eval ix = .int k z) (h0 : 0 ≤ z) (hz : z.toNat < len) :
    (execOp a.eval o).run P w = .ok (.value (.pointer (some ⟨b, q + z.toNat * n, none⟩))) w := by
  have hz2 : z < len := by omega
  simp [execOp, ho, Instr.indexAt, hi, hx, asIntOf, underlying, he, run_sizeOf hn, h0, hz2, Addr.addo]
theorem cptr_of_list {bad : Nat → Prop} {K : Kt} {w : World} {xs : List DVal} {y : DVal} {sz b o i : Nat} {f : Nat → Value} (hs : ∀ x ∈ xs, x.cells.length = sz) (hw : ∀ j, j < (xs.flatMap DVal.cells).length → ¬ bad b ∧ w.cell? ⟨b, o + j, none⟩ = some (f j))
    (h1 : ∀ j, j < (xs.flatMap DVal.cells).length → (f j).oneCell' = true) (h : ∀ (j : Nat) (c : DVal), (xs.flatMap DVal.cells)[j]? = some c → Rd bad w c (f j)) (hy : xs[i]? = some y) :
    Rv bad K w (.cptr y.cells) (.pointer (some ⟨b, o + i * sz, none⟩)) := by
  have hel := hs y (List.mem_of_getElem? hy)
  have hg : ∀ j, j < y.cells.length → (xs.flatMap DVal.cells)[i * sz + j]? = some y.cells[j]! := fun j hj => by
    rw [flat_get hs hy j (by omega), List.getElem?_eq_getElem hj, List.getElem!_eq_getElem?_getD, List.getElem?_eq_getElem hj]; rfl
  refine .cptr (f := fun j => f (i * sz + j)) (fun j hj => ?_) (fun j hj => ?_) (fun j c hj => ?_)
  · have := hw (i * sz + j) (List.getElem?_eq_some_iff.1 (hg j hj)).1
    rwa [← Nat.add_assoc] at this
  · exact h1 _ (List.getElem?_eq_some_iff.1 (hg j hj)).1
  · refine h _ c ?_
    rw [flat_get hs hy j (by have := (List.getElem?_eq_some_iff.1 hj).1; omega)]
    exact hj
theorem indexA_ok {P : Program} {σ σ' : St} {o : Oper} {t : TypeId} {x ix : Operand} (ho : o.op = .indexAddr t x ix) (hd : okDst σ.n o.dst = true) (h : stIndexA P σ o.dst t (evO σ x) (evO σ ix) = some σ') : OpOk P o σ σ' := by
  intro E a w K hR
  unfold stIndexA at h
  obtain ⟨e, he, h⟩ := Option.bind_eq_some_iff.1 h
  obtain ⟨n, hn, h⟩ := Option.bind_eq_some_iff.1 h
  obtain ⟨z, hz, h⟩ := Option.bind_eq_some_iff.1 h
  obtain ⟨kk, hi⟩ := intOfA_eq hz (hR.ev ix)
  have hu := elemOf_eq he
  cases h0 : decide (0 ≤ z) with
  | false => rw [h0] at h; cases h
  | true =>
    rw [h0] at h
    simp only [cond_true] at h
    have h0 : 0 ≤ z := of_decide_eq_true h0
    have hx := hR.ev x
    have hb := hR.evb x
    generalize hv : a.eval x = v at hx
    generalize evO σ x = q at hx hb h
    cases hx with
    | d hr =>
      cases hr with
      | list hs hc hw h1 h2 ha =>
        rename_i xs ad cap sz b off f
        simp only at h
        obtain ⟨y, hy, h⟩ := Option.bind_eq_some_iff.1 h
        cases hc2 : Nat.beq y.cells.length n with
        | false => rw [hc2] at h; cases h
        | true =>
          rw [hc2] at h
          simp only [cond_true, Option.some.injEq] at h
          subst h
          have hne : xs ≠ [] := fun e => by rw [e] at hy; simp at hy
          have hsz := hs y (List.mem_of_getElem? hy)
          have := beq_eq hc2
          have hns : n = sz := by omega
          subst hns
          rw [ha hne] at hv
          refine ⟨_, w, K, .inl (run_indexAddr ho hu hn hv hi h0 (List.getElem?_eq_some_iff.1 hy).1), hR.put_pure hd (cptr_of_list hs hw h1 h2 hy) rfl⟩
      | _ => cases h
    | ref hk =>
      rename_i l s k cap sz ad
      simp only at h
      have hob := hR.hr.ob l s
      cases hO : σ.H l s with
      | arr sz' xs =>
        rw [hO] at h hob
        simp only at h
        cases hc : (Nat.beq k xs.length && Nat.beq sz' n && Nat.blt z.toNat k) with
        | false => rw [hc] at h; cases h
        | true =>
          rw [hc] at h
          simp only [cond_true, Option.some.injEq] at h
          subst h
          simp only [Bool.and_eq_true] at hc
          obtain ⟨⟨c1, c2⟩, c3⟩ := hc
          have hkx := beq_eq c1
          subst hkx
          have hzk : z.toNat < xs.length := by simpa [Nat.blt_eq] using c3
          obtain ⟨_, ad', cap', hK, hs, hcap, hat⟩ := hob
          rw [hk] at hK
          simp only [Option.some.injEq, Prod.mk.injEq] at hK
          obtain ⟨rfl, rfl, rfl⟩ := hK
          have hszn := beq_eq c2
          subst hszn
          cases ad with
          | none =>
            obtain ⟨rfl, _⟩ := hat
            simp at hzk
          | some ad =>
            obtain ⟨b, off, sp⟩ := ad
            obtain ⟨hsp, _⟩ := hat
            simp only at hsp
            subst hsp
            refine ⟨_, w, K, .inl (run_indexAddr ho hu hn hv hi h0 hzk), hR.put_pure hd ?_ hb⟩
            have := Rv.elt (bad := badOf E.S0 K σ.H) (w := w) (i := z.toNat) (j := 0) hk
            rwa [Nat.add_zero] at this
      | frz xs =>
        rw [hO] at h hob
        simp only at h
        obtain ⟨y, hy, h⟩ := Option.bind_eq_some_iff.1 h
        cases hc : (Nat.beq k xs.length && Nat.beq y.cells.length n) with
        | false => rw [hc] at h; cases h
        | true =>
          rw [hc] at h
          simp only [cond_true, Option.some.injEq] at h
          subst h
          simp only [Bool.and_eq_true] at hc
          obtain ⟨c1, c2⟩ := hc
          have hkx := beq_eq c1
          subst hkx
          obtain ⟨ad', cap', sz', hK, hss, hrd⟩ := hob
          rw [hk] at hK
          simp only [Option.some.injEq, Prod.mk.injEq] at hK
          obtain ⟨rfl, rfl, rfl⟩ := hK
          have hne : xs ≠ [] := fun e => by rw [e] at hy; simp at hy
          generalize hG : Value.slice ad xs.length cap = G at hrd
          cases hrd with
          | list hs hc' hw h1 hr ha =>
            rename_i ad2 cap2 sz2 b2 o2 f
            simp only [Value.slice.injEq] at hG
            obtain ⟨rfl, _, rfl⟩ := hG
            have e1 := hs y (List.mem_of_getElem? hy)
            have e2 := beq_eq c2
            have hns : n = sz2 := by omega
            subst hns
            rw [ha hne] at hv
            exact ⟨_, w, K, .inl (run_indexAddr ho hu hn hv hi h0 (List.getElem?_eq_some_iff.1 hy).1), hR.put_pure hd (cptr_of_list hs hw h1 hr hy) rfl⟩
      | _ => rw [hO] at h; cases h
    | _ => cases h

/-! ### Lengths -/
def lenA : AVal → Option Nat
  | .d (.list xs) => some xs.length
  | .ref _ _ n => some n
  | .nils => some 0
  | _ => none
theorem lenA_eq {bad : Nat → Prop} {K : Kt} {w : World} {x : AVal} {n : Nat} {v : Value} (h : lenA x = some n) (hr : Rv bad K w x v) : ∃ a cap, v = .slice a n cap := by
  cases hr with
  | nils => simp only [lenA, Option.some.injEq] at h; subst h; exact ⟨_, _, rfl⟩
  | ref => simp only [lenA, Option.some.injEq] at h; subst h; exact ⟨_, _, rfl⟩
  | d hd =>
    cases hd with
    | list => simp only [lenA, Option.some.injEq] at h; subst h; exact ⟨_, _, rfl⟩
    | _ => simp [lenA] at h
  | _ => simp [lenA] at h
def stLen (P : Program) (σ : St) (dst : Option Tmp) (t : TypeId) (x : AVal) : Option St :=
  (elemOf' P t).bind fun _ => (lenA x).map fun (n : Nat) => σ.put dst (.d (.v (.int .i64 n)))
theorem len_ok {P : Program} {σ σ' : St} {o : Oper} {t : TypeId} {x : Operand} (ho : o.op = .call { callee := .builtin .len, args := #[x], argTypes := #[t] }) (hd : okDst σ.n o.dst = true) (h : stLen P σ o.dst t (evO σ x) = some σ') : OpOk P o σ σ' := by
  intro E a w K hR
  unfold stLen at h
  obtain ⟨e, he, h⟩ := Option.bind_eq_some_iff.1 h
  obtain ⟨n, hn, rfl⟩ := Option.map_eq_some_iff.1 h
  obtain ⟨ad, cap, hv⟩ := lenA_eq hn (hR.ev x)
  refine ⟨.int .i64 n, w, K, .inl ?_, hR.put_pure hd (.d (.v rfl)) rfl⟩
  simp [execOp, ho, resolve, invoke, builtin, Builtin.len_, underlying, elemOf_eq he, hv, goInt]

/-- A builtin on scalars. -/
def toVs : List AVal → Option (List Value)
  | [] => some []
  | x :: r => (toV x).bind fun u => (toVs r).map fun us => u :: us
theorem toVs_eq {bad : Nat → Prop} {K : Kt} {w : World} : ∀ {xs : List AVal} {us vs : List Value}, toVs xs = some us → P2 (Rv bad K w) xs vs → vs = us
  | [], us, vs, h, hp => by
    simp only [toVs, Option.some.injEq] at h
    subst h
    exact List.length_eq_zero_iff.1 (by simpa using hp.1)
  | x :: r, us, vs, h, hp => by
    simp only [toVs] at h
    obtain ⟨u, hu, h⟩ := Option.bind_eq_some_iff.1 h
    obtain ⟨us', hus, rfl⟩ := Option.map_eq_some_iff.1 h
    cases vs with
    | nil => have := hp.1; simp at this
    | cons y ys =>
      have h0 := toV_eq hu (hp.2 0 x y rfl rfl)
      subst h0
      exact congrArg _ (toVs_eq hus ⟨by simpa using hp.1, fun j a b ha hb => hp.2 (j + 1) a b (by simpa using ha) (by simpa using hb)⟩)
theorem P2.evs {E : Env} {σ : St} {a : Act} {w : World} {K : Kt} (hR : Rel E σ a w K) (xs : List Operand) : P2 (Rv (badOf E.S0 K σ.H) K w) (xs.map (evO σ)) (xs.map a.eval) := by
  refine ⟨by simp, fun j x y hx hy => ?_⟩
  rw [List.getElem?_map] at hx hy
  obtain ⟨z, hz, rfl⟩ := Option.map_eq_some_iff.1 hx
  rw [hz] at hy
  simp only [Option.map_some, Option.some.injEq] at hy
  subst hy
  exact hR.ev z
def valOf : Next → Option Value
  | .value v => some v
  | _ => none
def isC : Operand → Bool
  | .const _ => true
  | _ => false
noncomputable def builtinV (P : Program) (b : Builtin) (ts : Array TypeId) (ty : TypeId) (cs : Array Bool) (us : List Value) : Option Value := (pr P (builtin b ts ty cs ⟨us⟩)).bind valOf
noncomputable def stBuiltin (P : Program) (σ : St) (dst : Option Tmp) (b : Builtin) (ts : Array TypeId) (ty : TypeId) (xs : Array Operand) : Option St :=
  (toVs (xs.toList.map (evO σ))).bind fun us => (builtinV P b ts ty (xs.map isC) us).map fun r => σ.put dst (ofConst r)
theorem builtin_ok {P : Program} {σ σ' : St} {o : Oper} {b : Builtin} {ts : Array TypeId} {xs : Array Operand} (ho : o.op = .call { callee := .builtin b, args := xs, argTypes := ts }) (hd : okDst σ.n o.dst = true)
    (h : stBuiltin P σ o.dst b ts o.type xs = some σ') : OpOk P o σ σ' := by
  intro E a w K hR
  unfold stBuiltin at h
  obtain ⟨us, hus, h⟩ := Option.bind_eq_some_iff.1 h
  obtain ⟨r, hr, rfl⟩ := Option.map_eq_some_iff.1 h
  obtain ⟨nx, hnx, hr⟩ := Option.bind_eq_some_iff.1 hr
  have e := toVs_eq hus (P2.evs hR xs.toList)
  have hnx' : nx = .value r := by
    cases nx <;> simp [valOf] at hr
    subst hr; rfl
  subst hnx'
  refine ⟨r, w, K, .inl ?_, hR.put_pure hd (Rv.const r) (bel_const _ r)⟩
  have e2 : xs.map a.eval = ⟨us⟩ := by rw [← e]; apply Array.ext'; simp
  simp only [execOp, ho, resolve, invoke, Sem.run_bind]
  simp only [Sem.run_pure, Result.andThen_ok]
  rw [e2]
  refine Eq.trans (congrArg (fun q => (builtin b ts o.type q ⟨us⟩).run P w) ?_) (pr_run P _ _ w hnx)
  rfl
end Go.Fw
