/- Appending. -/
import Derived.Test.YtpgnhajindbhlaaFwI
import Derived.Laws.AppendOwn
set_option autoImplicit false
namespace Go.Fw
def byteD (b : UInt8) : DVal := .v (.int .u8 b.toNat)
def srcL (σ : St) : AVal → Option (List DVal)
  | .d (.list xs) => some xs
  | .d (.v (.string s)) => some (s.data.toList.map byteD)
  | .nils => some []
  | .ref l t n =>
    match σ.H l t with
    | .arr _ xs => bif Nat.beq n xs.length then some xs else none
    | .frz xs => bif Nat.beq n xs.length then some xs else none
    | _ => none
  | _ => none
/-- What a slice or a text holds, as append reads it. -/
structure Src (P : Program) (bad : Nat → Prop) (w : World) (n : Nat) (ys : List DVal) (v : Value) (vs : List Value) : Prop where
  rel : P2 (Rd bad w) (ys.flatMap DVal.cells) vs
  one : ∀ u ∈ vs, u.oneCell' = true
  len : Builtin.lenOf v = pure ys.length
  run : ∀ w', w'.heap = w.heap → (Builtin.firstCells n ys.length v).run P w' = .ok ⟨vs⟩ w'
theorem cell_heap {w w' : World} (h : w'.heap = w.heap) (a : Addr) : w'.cell? a = w.cell? a := by unfold World.cell?; rw [h]
theorem src_slice {P : Program} {bad : Nat → Prop} {w : World} {n b o cap : Nat} {ys : List DVal} {f : Nat → Value} {a : Option Addr} (hs : ∀ y ∈ ys, y.cells.length = n)
    (hw : ∀ (j : Nat) (c : DVal), (ys.flatMap DVal.cells)[j]? = some c → w.cell? ⟨b, o + j, none⟩ = some (f j) ∧ (f j).oneCell' = true ∧ Rd bad w c (f j)) (ha : ys ≠ [] → a = some ⟨b, o, none⟩) :
    Src P bad w n ys (.slice a ys.length cap) ((List.range (ys.flatMap DVal.cells).length).map f) := by
  have hg : ∀ j u, ((List.range (ys.flatMap DVal.cells).length).map f)[j]? = some u → j < (ys.flatMap DVal.cells).length ∧ u = f j := fun j u hu => by
    rw [List.getElem?_map] at hu
    obtain ⟨q, hq, rfl⟩ := Option.map_eq_some_iff.1 hu
    have hlt : j < (ys.flatMap DVal.cells).length := by
      rcases Nat.lt_or_ge j (ys.flatMap DVal.cells).length with h | h
      · exact h
      · rw [List.getElem?_eq_none (by simpa using h)] at hq; cases hq
    rw [List.getElem?_range hlt] at hq
    simp only [Option.some.injEq] at hq
    exact ⟨hlt, by rw [hq]⟩
  refine ⟨⟨by simp, fun j c u hc hu => ?_⟩, fun u hu => ?_, rfl, fun w' hw' => ?_⟩
  · obtain ⟨_, rfl⟩ := hg j u hu
    exact (hw j c hc).2.2
  · obtain ⟨j, hj⟩ := List.mem_iff_getElem?.1 hu
    obtain ⟨hlt, rfl⟩ := hg j u hj
    exact (hw j _ (List.getElem?_eq_getElem hlt)).2.1
  · rcases List.eq_nil_or_concat ys with rfl | ⟨_, _, _⟩
    · cases a with
      | none => simp [Builtin.firstCells]
      | some ad => simp [Builtin.firstCells, loadCells, loadCellsFrom]
    · have hne : ys ≠ [] := fun e => by simp_all
      rw [ha hne]
      have hl := flat_len hs
      have := run_loadCells_list (P := P) w' ⟨b, o, none⟩ ((List.range (ys.flatMap DVal.cells).length).map f) (fun j u hu => by
        obtain ⟨hlt, rfl⟩ := hg j u hu
        rw [Addr.addo, cell_heap hw']
        exact (hw j _ (List.getElem?_eq_getElem hlt)).1)
      rw [List.length_map, List.length_range, hl] at this
      rw [hl]
      exact this
theorem src_ok {P : Program} {E : Env} {σ : St} {a : Act} {w : World} {K : Kt} {x : AVal} {v : Value} {ys : List DVal} {n : Nat} (hR : Rel E σ a w K) (h : srcL σ x = some ys) (hr : Rv (badOf E.S0 K σ.H) K w x v) (hs : ∀ y ∈ ys, y.cells.length = n) :
    ∃ vs, Src P (badOf E.S0 K σ.H) w n ys v vs := by
  have list : ∀ {ys : List DVal} {v : Value}, (∀ y ∈ ys, y.cells.length = n) → Rd (badOf E.S0 K σ.H) w (.list ys) v → ∃ vs, Src P (badOf E.S0 K σ.H) w n ys v vs := by
    intro ys v hs hd
    cases hd with
    | list hs' hc hw h1 h2 ha =>
      rename_i ad cap sz b o f
      exact ⟨_, src_slice (b := b) (o := o) (f := f) hs (fun j c hc => ⟨(hw j (List.getElem?_eq_some_iff.1 hc).1).2, h1 j (List.getElem?_eq_some_iff.1 hc).1, h2 j c hc⟩) ha⟩
  cases hr with
  | d hd =>
    cases hd with
    | v hv =>
      unfold srcL at h
      split at h
      · rename_i e; simp at e
      · rename_i s e
        simp only [AVal.d.injEq, DVal.v.injEq] at e
        subst e
        simp only [Option.some.injEq] at h
        subst h
        have hfl : (s.data.toList.map byteD).flatMap DVal.cells = s.data.toList.map byteD := by
          generalize s.data.toList = l
          induction l with
          | nil => rfl
          | cons c r ih => simp [List.flatMap_cons, ih, byteD, DVal.cells]
        refine ⟨s.data.toList.map fun b => .int .u8 b.toNat, ⟨by simp [hfl], fun j c u hc hu => ?_⟩, fun u hu => ?_, ?_, fun w' hw' => ?_⟩
        · rw [hfl, List.getElem?_map] at hc
          rw [List.getElem?_map] at hu
          obtain ⟨z, hz, rfl⟩ := Option.map_eq_some_iff.1 hc
          rw [hz] at hu
          simp only [Option.map_some, Option.some.injEq] at hu
          subst hu
          exact .v rfl
        · obtain ⟨z, _, rfl⟩ := List.mem_map.1 hu
          rfl
        · simp [Builtin.lenOf]
        · have e : (s.data.toList.map byteD).length = s.size := by simp
          simp only [Builtin.firstCells, e]
          have e2 : (s.extract 0 s.size).data = s.data := by simp
          simp [e2]
          apply Array.ext'
          simp
      · rename_i e; simp at e
      · rename_i e; simp at e
      · cases h
    | agg => simp [srcL] at h
    | list hs' hc hw h1 h2 ha =>
      simp only [srcL, Option.some.injEq] at h
      subst h
      exact list hs (.list hs' hc hw h1 h2 ha)
  | nils =>
    simp only [srcL, Option.some.injEq] at h
    subst h
    exact list hs Rd.nil
  | ref hk =>
    rename_i l t k cap sz ad
    simp only [srcL] at h
    have hob := hR.hr.ob l t
    cases hO : σ.H l t with
    | arr sz' xs =>
      rw [hO] at h hob
      simp only at h
      cases hc : Nat.beq k xs.length with
      | false => rw [hc] at h; cases h
      | true =>
        rw [hc] at h
        simp only [cond_true, Option.some.injEq] at h
        subst h
        have hkx := beq_eq hc
        subst hkx
        obtain ⟨_, ad', cap', hK, hss, hcap, hat⟩ := hob
        rw [hk] at hK
        simp only [Option.some.injEq, Prod.mk.injEq] at hK
        obtain ⟨rfl, rfl, rfl⟩ := hK
        cases ad with
        | none =>
          obtain ⟨rfl, _⟩ := hat
          exact list hs Rd.nil
        | some ad =>
          obtain ⟨b, off, sp⟩ := ad
          obtain ⟨hsp, vs, ty', fz, h2, _, _, h5⟩ := hat
          simp only at hsp h2 h5
          subst hsp
          refine ⟨_, src_slice (b := b) (o := off) (f := fun j => (w.cell? ⟨b, off + j, none⟩).getD default) hs (fun j c hjc => ?_) (fun _ => rfl)⟩
          obtain ⟨u, hu, hu1, hu2⟩ := h5 j c hjc
          have hcell : w.cell? ⟨b, off + j, none⟩ = some u := by simp [World.cell?, h2, hu]
          simp only [hcell, Option.getD_some]
          exact ⟨trivial, hu1, hu2⟩
    | frz xs =>
      rw [hO] at h hob
      simp only at h
      cases hc : Nat.beq k xs.length with
      | false => rw [hc] at h; cases h
      | true =>
        rw [hc] at h
        simp only [cond_true, Option.some.injEq] at h
        subst h
        have hkx := beq_eq hc
        subst hkx
        obtain ⟨ad', cap', sz', hK, hss, hrd⟩ := hob
        rw [hk] at hK
        simp only [Option.some.injEq, Prod.mk.injEq] at hK
        obtain ⟨rfl, rfl, rfl⟩ := hK
        exact list hs hrd
    | _ => rw [hO] at h; cases h
  | _ => simp [srcL] at h

def notInt (P : Program) (u : TypeId) : Bool := match P.underlying u with | some (.int _) => false | some _ => true | none => false
theorem run_notInt {P : Program} {u : TypeId} (h : notInt P u = true) (w : World) : ∃ d, (underlying u).run P w = .ok d w ∧ (match d with | .int _ => true | _ => false) = false := by
  unfold notInt at h
  cases hu : P.underlying u with
  | none => rw [hu] at h; cases h
  | some d =>
    rw [hu] at h
    refine ⟨d, by simp [underlying, hu], ?_⟩
    cases d <;> first | rfl | (simp at h)
structure AppTy (P : Program) (t u e : TypeId) (i : TypeInfo) (z : Value) : Prop where
  ht : P.underlying t = some (.slice e)
  hu : notInt P u = true
  hi : P.info? e = some i
  hz : i.zero = some z
  hs : z.cells.size = i.size
theorem append_room {P : Program} {w w' : World} {t u e ty : TypeId} {i : TypeInfo} {z : Value} (hT : AppTy P t u e i z) {bad : Nat → Prop} {ys : List DVal} {x : Value} {vs : List Value} (hS : Src P bad w i.size ys x vs) {g o sLen sCap : Nat}
    (hroom : sLen + ys.length ≤ sCap) (hst : (storeCells ⟨g, o + sLen * i.size, none⟩ vs).run P w = .ok () w') :
    (Builtin.append_ #[t, u] ty #[.slice (some ⟨g, o, none⟩) sLen sCap, x]).run P w = .ok (.slice (some ⟨g, o, none⟩) (sLen + ys.length) sCap) w' := by
  obtain ⟨d, hd1, hd2⟩ := run_notInt hT.hu w
  have hf := hS.run w rfl
  simp [Builtin.append_, run_underlying hT.ht, sizeOf, typeInfo, hT.hi, hS.len, hd1]
  cases d <;> first | (simp at hd2; done) | (simp [hroom, hf, Addr.addo, hst])
theorem append_room0 {P : Program} {w : World} {t u e ty : TypeId} {i : TypeInfo} {z : Value} (hT : AppTy P t u e i z) {bad : Nat → Prop} {x : Value} {vs : List Value} (hS : Src P bad w i.size [] x vs) {sLen sCap : Nat} (hroom : sLen ≤ sCap) :
    (Builtin.append_ #[t, u] ty #[.slice none sLen sCap, x]).run P w = .ok (.slice none sLen sCap) w := by
  obtain ⟨d, hd1, hd2⟩ := run_notInt hT.hu w
  have hf := hS.run w rfl
  have hl := hS.len
  simp only [List.length_nil] at hf hl
  simp [Builtin.append_, run_underlying hT.ht, sizeOf, typeInfo, hT.hi, hl, hd1]
  cases d <;> first | (simp at hd2; done) | (simp [hroom, hf])
theorem next_le5 {need old : Nat} (h : old < need) : 4 * Builtin.nextslicecap need old ≤ 5 * need + 2368 := by
  unfold Builtin.nextslicecap
  split
  · omega
  · split
    · omega
    · rw [growBy_four]
      repeat' split
      all_goals omega
theorem grow_fits {need bytes : Nat} (h : need * bytes ≤ 140737488355328 ∨ (need * bytes ≤ 211106232532992 ∧ bytes ≤ 1048576)) : ∀ old, old < need → Builtin.nextslicecap need old * bytes ≤ 281474976710656 := by
  intro old ho
  rcases h with h | ⟨h, hb⟩
  · exact growslice_fits ho h
  · have h1 := Nat.mul_le_mul_right bytes (next_le5 ho)
    rw [Nat.add_mul, Nat.mul_assoc, Nat.mul_assoc] at h1
    omega
theorem append_grow {P : Program} {w : World} {t u e ty : TypeId} {i : TypeInfo} {z : Value} (hT : AppTy P t u e i z) {bad bad' : Nat → Prop} {xs ys : List DVal} {s x : Value} {us vs : List Value} {base : Option Addr} {sCap : Nat} (hs : s = .slice base xs.length sCap) (hX : Src P bad' w i.size xs s us) (hS : Src P bad w i.size ys x vs)
    (hg : sCap < xs.length + ys.length) (h63 : ((xs.length + ys.length : Nat) : Int) ≤ 9223372036854775807) (hfit : ∀ old, old < xs.length + ys.length → Builtin.nextslicecap (xs.length + ys.length) old * i.bytes ≤ 281474976710656) :
    ∃ cap, xs.length + ys.length ≤ cap ∧ (Builtin.append_ #[t, u] ty #[s, x]).run P w =
      .ok (.slice (some ⟨w.heap.size, 0, none⟩) (xs.length + ys.length) cap) (w.drew.alloc (.cells ⟨us ++ vs ++ (Builtin.zeroCells z.cells (cap - (xs.length + ys.length))).toList⟩ e)) := by
  obtain ⟨d, hd1, hd2⟩ := run_notInt hT.hu w
  subst hs
  have hn : ¬ (xs.length + ys.length ≤ sCap) := by omega
  have h63' : ¬ (9223372036854775807 < ((xs.length : Int) + (ys.length : Int))) := by omega
  have h48 := hfit _ hg
  have h48' : ¬ (281474976710656 < Builtin.nextslicecap (xs.length + ys.length) sCap * i.bytes) := by omega
  have hf := hS.run w.drew rfl
  have hfo := hX.run w.drew rfl
  refine ⟨grownCap w (xs.length + ys.length) sCap e, grownCap_ge _ _ _ _, ?_⟩
  simp [Builtin.append_, run_underlying hT.ht, sizeOf, typeInfo, hT.hi, hS.len, hd1]
  cases d <;> first | (simp at hd2; done) | (simp [zeroValue, typeInfo, hT.hi, hT.hz, hn, h63', h48', Question.forced, hf, hfo, newRow, grownCap]; congr 2; apply Array.ext'; simp)

def extK (K : Kt) (l t n : Nat) (z : Option Addr × Nat × Nat) : Kt := fun l' t' n' => bif l' == l && t' == t && n' == n then some z else K l' t' n'
theorem extK_at {K : Kt} {l t n : Nat} {z : Option Addr × Nat × Nat} (n' : Nat) : extK K l t n z l t n' = if n' = n then some z else K l t n' := by
  simp only [extK, BEq.rfl, Bool.and_self, Bool.true_and]
  by_cases e : n' = n
  · simp [e]
  · have : (n' == n) = false := by simpa using e
    simp [this, e]
theorem extK_ne {K : Kt} {l t n : Nat} {z : Option Addr × Nat × Nat} (l' t' : Nat) (h : ¬ (l' = l ∧ t' = t)) : extK K l t n z l' t' = K l' t' := by
  have : (l' == l && t' == t) = false := by simpa using h
  funext n'
  simp [extK, this]
theorem extK_le {K : Kt} {l t n : Nat} {z : Option Addr × Nat × Nat} (h : ∀ z', K l t n = some z' → z' = z) : ∀ l' t' n' z', K l' t' n' = some z' → extK K l t n z l' t' n' = some z' := by
  intro l' t' n' z' hz
  by_cases e : l' = l ∧ t' = t
  · obtain ⟨rfl, rfl⟩ := e
    rw [extK_at]
    by_cases e : n' = n
    · subst e; rw [if_pos rfl, h z' hz]
    · rw [if_neg e]; exact hz
  · rw [extK_ne l' t' e]; exact hz

def allLen (n : Nat) (ys : List DVal) : Bool := ys.all fun y => Nat.beq y.cells.length n
theorem allLen_iff {n : Nat} {ys : List DVal} : allLen n ys = true ↔ ∀ y ∈ ys, y.cells.length = n := by
  unfold allLen
  rw [List.all_eq_true]
  exact ⟨fun h y hy => beq_eq (h y hy), fun h y hy => by rw [h y hy]; simp⟩
def appOk (P : Program) (u : TypeId) (i : TypeInfo) (n : Nat) (ys : List DVal) : Bool :=
  (i.zero).any (fun z => Nat.beq z.cells.size i.size) && notInt P u && allLen i.size ys && (Nat.ble (n * i.bytes) 140737488355328 || (Nat.ble (n * i.bytes) 211106232532992 && Nat.ble i.bytes 1048576)) && Nat.ble n 9223372036854775807
def stAppend (P : Program) (σ : St) (d : Nat) (t u : TypeId) (x y : AVal) : Option St :=
  (elemOf' P t).bind fun e => (P.info? e).bind fun i => (srcL σ y).bind fun ys =>
  match x with
  | .nils => bif appOk P u i ys.length ys then some (σ.alloc d (.arr i.size ys) (.ref σ.lev d ys.length)) else none
  | .ref l s k =>
    match σ.H l s with
    | .arr sz xs => bif appOk P u i (xs.length + ys.length) ys && Nat.beq k xs.length && Nat.beq sz i.size && Nat.ble l σ.lev then
        some (St.put { σ with H := σ.H.set l s (.arr sz (xs ++ ys)) } (some d) (.ref l s (xs.length + ys.length))) else none
    | _ => none
  | _ => none
theorem Ch.drew (w : World) : Ch (fun _ => False) w w.drew := ⟨rfl, rfl, rfl, Nat.le_refl _, Nat.le_succ _, fun _ _ _ => rfl⟩
theorem Ch.none_trans {o : Nat → Prop} {a b c : World} (h : Ch (fun _ => False) a b) (k : Ch (fun _ => False) b c) : Ch o a c := (h.trans k (fun _ e => e.elim)).mono (fun _ e => e.elim)
theorem Src.nil {P : Program} {bad : Nat → Prop} {w : World} {n cap : Nat} : Src P bad w n [] (.slice none 0 cap) [] :=
  ⟨⟨rfl, by simp⟩, by simp, rfl, fun w' _ => by simp [Builtin.firstCells]⟩
theorem size_zeroCells' (z : Array Value) (n : Nat) : (Builtin.zeroCells z n).toList.length = n * z.size := by simp [Builtin.zeroCells]
theorem exec_append {P : Program} {a : Act} {w w' : World} {o : Oper} {t u : TypeId} {x y : Operand} {r : Value} (ho : o.op = .call { callee := .builtin .append, args := #[x, y], argTypes := #[t, u] })
    (h : (Builtin.append_ #[t, u] o.type #[a.eval x, a.eval y]).run P w = .ok r w') : (execOp a.eval o).run P w = .ok (.value r) w' := by
  simp [execOp, ho, resolve, invoke, builtin, h]
theorem append_ok {P : Program} {σ σ' : St} {o : Oper} {t u : TypeId} {x y : Operand} {d : Nat} (ho : o.op = .call { callee := .builtin .append, args := #[x, y], argTypes := #[t, u] }) (hdd : o.dst = some d) (hd : okDst σ.n o.dst = true)
    (h : stAppend P σ d t u (evO σ x) (evO σ y) = some σ') : OpOk P o σ σ' := by
  intro E a w K hR
  unfold stAppend at h
  obtain ⟨e, he, h⟩ := Option.bind_eq_some_iff.1 h
  obtain ⟨i, hi, h⟩ := Option.bind_eq_some_iff.1 h
  obtain ⟨ys, hys, h⟩ := Option.bind_eq_some_iff.1 h
  have hu := elemOf_eq he
  rw [hdd] at hd ⊢
  have key : ∀ {n : Nat}, appOk P u i n ys = true → ∃ z, AppTy P t u e i z ∧ (∀ y ∈ ys, y.cells.length = i.size) ∧ (∀ old, old < n → Builtin.nextslicecap n old * i.bytes ≤ 281474976710656) ∧ (n : Int) ≤ 9223372036854775807 := by
    intro n hn
    unfold appOk at hn
    simp only [Bool.and_eq_true] at hn
    obtain ⟨⟨⟨⟨h1, h2⟩, h3⟩, h4⟩, h5⟩ := hn
    cases hz : i.zero with
    | none => rw [hz] at h1; simp at h1
    | some z =>
      rw [hz] at h1
      simp only [Option.any_some] at h1
      exact ⟨z, ⟨hu, h2, hi, hz, beq_eq h1⟩, allLen_iff.1 h3, grow_fits (by
        simp only [Bool.or_eq_true, Bool.and_eq_true, Nat.ble_eq] at h4
        exact h4), by have := Nat.le_of_ble_eq_true h5; omega⟩
  have hx := hR.ev x
  have hb := hR.evb x
  generalize hv : a.eval x = v at hx
  generalize evO σ x = q at hx hb h
  have hy := hR.ev y
  cases hx with
  | nils =>
    simp only at h
    cases hc : appOk P u i ys.length ys with
    | false => rw [hc] at h; cases h
    | true =>
      rw [hc] at h
      simp only [cond_true, Option.some.injEq] at h
      subst h
      obtain ⟨z, hT, hlen, h48, h63⟩ := key hc
      obtain ⟨vs, hS⟩ := src_ok (P := P) hR hys hy hlen
      cases ys with
      | nil =>
        obtain ⟨K', hK'⟩ := hR.arr (d := d) (sz := i.size) (xs := []) (ad := none) (cap := 0) (w' := w) hd (Ch.refl _ w) (by simp) (Nat.le_refl _) ⟨rfl, rfl⟩ (by simp)
        exact ⟨_, w, K', .inl (exec_append ho (by rw [hv]; exact append_room0 hT hS (Nat.le_refl _))), hK'⟩
      | cons y0 yr =>
        obtain ⟨cap, hcap, hrun⟩ := append_grow (ty := o.type) (t := t) (u := u) (xs := []) (s := .slice none 0 0) (us := []) (bad' := fun _ => False) hT rfl Src.nil hS (by simp) (by simpa using h63) (by simpa using h48)
        simp only [List.length_nil, Nat.zero_add, List.nil_append] at hcap hrun
        obtain ⟨K', hK'⟩ := hR.arr (d := d) (sz := i.size) (xs := y0 :: yr) (ad := some ⟨w.heap.size, 0, none⟩) (cap := cap) (w' := w.drew.alloc (.cells ⟨vs ++ (Builtin.zeroCells z.cells (cap - (y0 :: yr).length)).toList⟩ e)) hd (Ch.none_trans (Ch.drew w) (Ch.alloc _ _)) hlen hcap
          ⟨rfl, _, e, (0, 0), heap_alloc_new w.drew _, by simp, by
            rw [List.length_append, size_zeroCells', hT.hs, hS.rel.1, flat_len hlen, ← Nat.add_mul, Nat.add_sub_cancel' hcap]
            simp, fun j c hc => by
              have hlt : j < vs.length := by rw [hS.rel.1]; exact (List.getElem?_eq_some_iff.1 hc).1
              exact ⟨vs[j], by rw [Nat.zero_add, List.getElem?_append_left hlt, List.getElem?_eq_getElem hlt], hS.one _ (List.getElem_mem hlt), hS.rel.2 j c _ hc (List.getElem?_eq_getElem hlt)⟩⟩ (by simp)
        exact ⟨_, _, K', .inl (exec_append ho (by rw [hv]; exact hrun)), hK'⟩
  | ref hk =>
    rename_i l s k cap sz ad
    simp only at h
    have hob := hR.hr.ob l s
    cases hO : σ.H l s with
    | arr sz' xs =>
      rw [hO] at h hob
      simp only at h
      cases hc : (appOk P u i (xs.length + ys.length) ys && Nat.beq k xs.length && Nat.beq sz' i.size && Nat.ble l σ.lev) with
      | false => rw [hc] at h; cases h
      | true =>
        rw [hc] at h
        simp only [cond_true, Option.some.injEq] at h
        subst h
        simp only [Bool.and_eq_true] at hc
        obtain ⟨⟨⟨c0, c1⟩, c2⟩, c3⟩ := hc
        obtain ⟨z, hT, hlen, h48, h63⟩ := key c0
        obtain ⟨vs, hS⟩ := src_ok (P := P) hR hys hy hlen
        have hkx := beq_eq c1
        subst hkx
        have hsz := beq_eq c2
        subst hsz
        have hlev := Nat.le_of_ble_eq_true c3
        obtain ⟨hn0, ad', cap', hK, hss, hcap, hat⟩ := hob
        rw [hk] at hK
        simp only [Option.some.injEq, Prod.mk.injEq] at hK
        obtain ⟨rfl, rfl, rfl⟩ := hK
        have hbel : (AVal.ref l s (xs.length + ys.length)).bel (σ.lev + 1) = true := hb
        have hall : ∀ x ∈ xs ++ ys, x.cells.length = i.size := fun x hx => by
          rcases List.mem_append.1 hx with hx | hx
          · exact hss x hx
          · exact hlen x hx
        rcases Nat.lt_or_ge cap (xs.length + ys.length) with hg | hroom
        · -- a new row
          obtain ⟨us, hX⟩ := src_ok (P := P) (n := i.size) (x := .ref l s xs.length) (v := a.eval x) hR (by simp only [srcL, hO, Nat.beq_refl, cond_true]) (by rw [hv]; exact .ref hk) hss
          obtain ⟨cap2, hcap2, hrun⟩ := append_grow (ty := o.type) (t := t) (u := u) hT hv hX hS hg h63 h48
          let zz : Option Addr × Nat × Nat := (some ⟨w.heap.size, 0, none⟩, cap2, i.size)
          have hKle := extK_le (K := K) (l := l) (t := s) (n := xs.length + ys.length) (z := zz) (fun z' hz' => by rw [hn0 _ (by omega)] at hz'; cases hz')
          have hch : Ch (fun _ => False) w (w.drew.alloc (.cells ⟨us ++ vs ++ (Builtin.zeroCells z.cells (cap2 - (xs.length + ys.length))).toList⟩ e)) := Ch.none_trans (Ch.drew w) (Ch.alloc _ _)
          have hch' : Ch (fun b => (σ.H l s).own K l s b) w (w.drew.alloc (.cells ⟨us ++ vs ++ (Builtin.zeroCells z.cells (cap2 - (xs.length + ys.length))).toList⟩ e)) := hch.mono (fun _ h => h.elim)
          have hown : ∀ b, (AObj.arr i.size (xs ++ ys)).own (extK K l s (xs.length + ys.length) zz) l s b → (σ.H l s).own K l s b ∨ w.heap.size ≤ b := fun b hb' => by
            obtain ⟨o', z', hz⟩ := hb'
            rw [List.length_append, extK_at, if_pos rfl] at hz
            simp only [Option.some.injEq, Prod.mk.injEq, Addr.mk.injEq, zz] at hz
            exact .inr (by omega)
          have hkp := Keeps.write hR.hr hch' (fun l' t' hn => extK_ne l' t' hn) hown
          have hr' := hR.hr.write hch' hKle (fun l' t' hn => extK_ne l' t' hn) hown (by
            refine ⟨fun n hn => ?_, some ⟨w.heap.size, 0, none⟩, cap2, by rw [List.length_append, extK_at, if_pos rfl], hall, by rw [List.length_append]; exact hcap2, rfl, _, e, (0, 0), heap_alloc_new w.drew _, by simp, ?_, fun j c hc => ?_⟩
            · rw [List.length_append] at hn
              rw [extK_at, if_neg (by omega)]
              exact hn0 n (by omega)
            · rw [List.length_append, List.length_append, size_zeroCells', hT.hs, hS.rel.1, hX.rel.1, flat_len hlen, flat_len hss, ← Nat.add_mul, ← Nat.add_mul, Nat.add_sub_cancel' hcap2]
              simp
            · have hp := (hX.rel.append hS.rel)
              rw [← List.flatMap_append] at hp
              have hlt : j < (us ++ vs).length := by rw [hp.1]; exact (List.getElem?_eq_some_iff.1 hc).1
              refine ⟨(us ++ vs)[j], by rw [Nat.zero_add, List.getElem?_append_left hlt, List.getElem?_eq_getElem hlt], ?_, (hp.2 j c _ hc (List.getElem?_eq_getElem hlt)).mono hkp⟩
              have hm := List.getElem_mem hlt
              rcases List.mem_append.1 hm with hm | hm
              · exact hX.one _ hm
              · exact hS.one _ hm) rfl hlev
          exact ⟨_, _, _, .inl (exec_append ho hrun), hR.put hd hr' hkp hKle (.ref (by rw [extK_at, if_pos rfl])) hbel⟩
        · -- there is room
          cases ad with
          | none =>
            obtain ⟨rfl, rfl⟩ := hat
            obtain rfl : ys = [] := List.length_eq_zero_iff.1 (by simp at hroom; simpa using hroom)
            have hr' : HRel E σ.lev (σ.H.set l s (.arr i.size ([] ++ []))) w K := hR.hr.write (Ch.refl _ w) (fun _ _ _ _ hz => hz) (fun _ _ _ => rfl) (fun b hb' => .inl (by rw [hO]; exact hb')) ⟨hn0, none, 0, hk, hss, Nat.le_refl _, rfl, rfl⟩ rfl hlev
            have hkp := Keeps.write (o' := .arr i.size ([] ++ [])) hR.hr (Ch.refl _ w) (fun _ _ _ => rfl) (fun b hb' => .inl (by rw [hO]; exact hb'))
            exact ⟨_, w, K, .inl (exec_append ho (by rw [hv]; exact append_room0 hT hS (Nat.le_refl _))), hR.put hd hr' hkp (fun _ _ _ _ hz => hz) (.ref hk) hbel⟩
          | some ad =>
            obtain ⟨g, off, sp⟩ := ad
            obtain ⟨hsp, cur, ty', fz, h2, h3, h4, h5⟩ := hat
            simp only at hsp h2 h4 h5
            subst hsp
            have hfv : vs.length = ys.length * i.size := by rw [hS.rel.1, flat_len hlen]
            have hmul : (xs.length + ys.length) * i.size ≤ cap * i.size := Nat.mul_le_mul_right _ hroom
            rw [Nat.add_mul] at hmul
            obtain ⟨w', hw1, hw2, hw3⟩ := storeCells_ok P g ty' fz vs (off + xs.length * i.size) 0 cur w h2 h3 (by omega) hS.one
            let zz : Option Addr × Nat × Nat := (some ⟨g, off, none⟩, cap, i.size)
            have hKle := extK_le (K := K) (l := l) (t := s) (n := xs.length + ys.length) (z := zz) (fun z' hz' => by
              rcases Nat.eq_zero_or_pos ys.length with e0 | e0
              · rw [e0, Nat.add_zero, hk] at hz'
                simp only [Option.some.injEq] at hz'
                exact hz'.symm
              · rw [hn0 _ (by omega)] at hz'; cases hz')
            have hownb : (σ.H l s).own K l s g := by rw [hO]; exact ⟨off, _, hk⟩
            have hch' : Ch (fun b => (σ.H l s).own K l s b) w w' := hw3.mono (fun b e => e ▸ hownb)
            have hown : ∀ b, (AObj.arr i.size (xs ++ ys)).own (extK K l s (xs.length + ys.length) zz) l s b → (σ.H l s).own K l s b ∨ w.heap.size ≤ b := fun b hb' => by
              obtain ⟨o', z', hz⟩ := hb'
              rw [List.length_append, extK_at, if_pos rfl] at hz
              simp only [Option.some.injEq, Prod.mk.injEq, Addr.mk.injEq, zz] at hz
              left
              rw [← hz.1.1]
              exact hownb
            have hkp := Keeps.write hR.hr hch' (fun l' t' hn => extK_ne l' t' hn) hown
            have hr' := hR.hr.write hch' hKle (fun l' t' hn => extK_ne l' t' hn) hown (by
              refine ⟨fun n hn => ?_, some ⟨g, off, none⟩, cap, by rw [List.length_append, extK_at, if_pos rfl], hall, by rw [List.length_append]; exact hroom, rfl, _, ty', fz, hw2, ?_, ?_, fun j c hc => ?_⟩
              · rw [List.length_append] at hn
                rw [extK_at, if_neg (by omega)]
                exact hn0 n (by omega)
              · intro j hj
                refine h3 j ?_
                simp only [List.length_append, List.length_take, List.length_drop] at hj
                omega
              · simp only [List.length_append, List.length_take, List.length_drop]; omega
              · have hlx := flat_len hss
                rw [List.flatMap_append] at hc
                simp only [Nat.add_zero]
                rcases Nat.lt_or_ge j (xs.flatMap DVal.cells).length with q1 | q1
                · rw [List.getElem?_append_left q1] at hc
                  obtain ⟨u', hu1, hu2, hu3⟩ := h5 j c hc
                  refine ⟨u', ?_, hu2, hu3.mono hkp⟩
                  rw [List.append_assoc, List.getElem?_append_left (by rw [List.length_take]; omega), List.getElem?_take_of_lt (by omega)]
                  exact hu1
                · rw [List.getElem?_append_right q1] at hc
                  have hlt : j - (xs.flatMap DVal.cells).length < vs.length := by rw [hS.rel.1]; exact (List.getElem?_eq_some_iff.1 hc).1
                  refine ⟨vs[j - (xs.flatMap DVal.cells).length], ?_, hS.one _ (List.getElem_mem hlt), (hS.rel.2 _ c _ hc (List.getElem?_eq_getElem hlt)).mono hkp⟩
                  have hl2 : (cur.take (off + xs.length * i.size)).length = off + xs.length * i.size := by rw [List.length_take]; omega
                  rw [List.append_assoc, List.getElem?_append_right (by omega), List.getElem?_append_left (by omega), hl2, ← List.getElem?_eq_getElem hlt]
                  congr 1
                  omega) rfl hlev
            exact ⟨_, _, _, .inl (exec_append ho (by rw [hv]; exact append_room hT hS hroom hw1)), hR.put hd hr' hkp hKle (.ref (by rw [extK_at, if_pos rfl])) hbel⟩
    | _ => rw [hO] at h; cases h
  | _ => cases h
end Go.Fw
