/- Writing variables; fields' addresses; elements' addresses. -/
import Derived.Test.YtpgnhajindbhlaaFwG
set_option autoImplicit false
namespace Go.Fw
theorem flat_set {sz : Nat} : ∀ {xs : List DVal} (_ : ∀ x ∈ xs, x.cells.length = sz) {i : Nat} {e e' : DVal} (_ : xs[i]? = some e) (j : Nat) (ys : List DVal), j + ys.length ≤ sz →
    e'.cells = e.cells.take j ++ ys ++ e.cells.drop (j + ys.length) →
    (xs.set i e').flatMap DVal.cells = (xs.flatMap DVal.cells).take (i * sz + j) ++ ys ++ (xs.flatMap DVal.cells).drop (i * sz + j + ys.length)
  | [], _, i, e, e', hi, _, _, _, _ => by simp at hi
  | x :: r, hs, i, e, e', hi, j, ys, hj, he => by
    have hx := hs x (by simp)
    cases i with
    | zero =>
      simp only [List.getElem?_cons_zero, Option.some.injEq] at hi
      subst hi
      simp only [List.set_cons_zero, List.flatMap_cons, Nat.zero_mul, Nat.zero_add, he]
      rw [List.take_append_of_le_length (by omega), List.drop_append_of_le_length (by omega)]
      simp
    | succ i =>
      simp only [List.getElem?_cons_succ] at hi
      have ih := flat_set (e' := e') (fun y hy => hs y (List.mem_cons_of_mem _ hy)) hi j ys hj he
      simp only [List.set_cons_succ, List.flatMap_cons, ih]
      have h1 : (i + 1) * sz + j = x.cells.length + (i * sz + j) := by rw [hx, Nat.succ_mul]; omega
      rw [h1, List.take_length_add_append]
      have h2 : x.cells.length + (i * sz + j) + ys.length = x.cells.length + (i * sz + j + ys.length) := by omega
      rw [h2, List.drop_length_add_append]
      simp

def newElem (e y : DVal) (j : Nat) : DVal := bif Nat.beq y.cells.length e.cells.length then y else .agg (e.cells.take j ++ y.cells ++ e.cells.drop (j + y.cells.length))
theorem newElem_cells {e y : DVal} {j : Nat} (h : j + y.cells.length ≤ e.cells.length) : (newElem e y j).cells = e.cells.take j ++ y.cells ++ e.cells.drop (j + y.cells.length) := by
  unfold newElem
  cases hb : Nat.beq y.cells.length e.cells.length with
  | false => rfl
  | true =>
    have hl := beq_eq hb
    have hj : j = 0 := by omega
    subst hj
    simp [hl]
def stStore (P : Program) (σ : St) (dst : Option Tmp) (ty : TypeId) (x y : AVal) : Option St :=
  match x with
  | .ptr l t off =>
    match σ.H l t with
    | .box cs => (avCells y).bind fun ys => bif (szOf P ty).any (Nat.beq ys.length) && Nat.ble l σ.lev && AVal.belL (l + 1) ys && Nat.ble (off + ys.length) cs.length then
        some (St.put { σ with H := σ.H.set l t (.box (cs.take off ++ ys ++ cs.drop (off + ys.length))) } dst .any) else none
    | _ => none
  | .elt l t k i j =>
    (frzV σ y).bind fun p =>
    match p.2.H l t with
    | .arr sz xs => (xs[i]?).bind fun e => bif (szOf P ty).any (Nat.beq p.1.cells.length) && Nat.beq k xs.length && Nat.ble l σ.lev && Nat.ble (j + p.1.cells.length) sz then
        some (St.put { p.2 with H := p.2.H.set l t (.arr sz (xs.set i (newElem e p.1 j))) } dst .any) else none
    | _ => none
  | _ => none
theorem run_storeVar {P : Program} {w w' : World} {ty : TypeId} {ad : Addr} {v : Value} (hn : szOf P ty = some v.cells.size) (h : (storeCells ad v.cells.toList).run P w = .ok () w') : (storeVar ty ad v).run P w = .ok () w' := by
  simp [storeVar, run_sizeOf hn, h]
theorem cells_of_rd {bad : Nat → Prop} {w : World} {y : DVal} {v : Value} (h : Rd bad w y v) : P2 (Rd bad w) y.cells v.cells.toList ∧ (∀ (j : Nat) (z : Value), v.cells.toList[j]? = some z → z.oneCell' = true) := by
  have one : ∀ {y : DVal} {u : Value}, y.cells = [y] → u.cells = #[u] → u.oneCell' = true → Rd bad w y u → P2 (Rd bad w) y.cells u.cells.toList ∧ (∀ (j : Nat) (z : Value), u.cells.toList[j]? = some z → z.oneCell' = true) := by
    intro y u h0 h1 h2 h3
    rw [h0, h1]
    refine ⟨⟨rfl, fun j a b ha hb => ?_⟩, fun j z hz => ?_⟩
    · cases j with
      | zero => simp at ha hb; subst ha hb; exact h3
      | succ j => simp at ha
    · cases j with
      | zero => simp at hz; subst hz; exact h2
      | succ j => simp at hz
  cases h with
  | v hv => exact one rfl (by cases v <;> first | rfl | simp [Value.oneCell'] at hv) hv (.v hv)
  | agg hl h1 h2 => exact ⟨⟨hl, h2⟩, h1⟩
  | list hs hc hw h1 h2 ha => exact one rfl rfl rfl (.list hs hc hw h1 h2 ha)
theorem run_store_op {P : Program} {a : Act} {w w' : World} {o : Oper} {ty : TypeId} {x y : Operand} {ad : Addr} (ho : o.op = .store ty x y) (hx : a.eval x = .pointer (some ad)) (h : (storeVar ty ad (a.eval y)).run P w = .ok () w') :
    (execOp a.eval o).run P w = .ok .skip w' := by
  simp [execOp, ho, hx, Instr.storeAt, Instr.sureAddr, h]
theorem store_ok {P : Program} {σ σ' : St} {o : Oper} {ty : TypeId} {x y : Operand} (ho : o.op = .store ty x y) (hd : okDst σ.n o.dst = true) (h : stStore P σ o.dst ty (evO σ x) (evO σ y) = some σ') : OpOk P o σ σ' := by
  intro E a w K hR
  unfold stStore at h
  have hx := hR.ev x
  have hy := hR.ev y
  generalize hv : a.eval x = v at hx
  generalize hu : a.eval y = u at hy
  generalize evO σ y = yy at hy h
  generalize evO σ x = q at hx h
  cases hx with
  | ptr hk =>
    rename_i l t off b cap sz
    simp only at h
    have hob := hR.hr.ob l t
    cases hO : σ.H l t with
    | box cs =>
      rw [hO] at h hob
      simp only at h
      obtain ⟨ys, hys, h⟩ := Option.bind_eq_some_iff.1 h
      cases hc : ((szOf P ty).any (Nat.beq ys.length) && Nat.ble l σ.lev && AVal.belL (l + 1) ys && Nat.ble (off + ys.length) cs.length) with
      | false => rw [hc] at h; cases h
      | true =>
        rw [hc] at h
        simp only [cond_true, Option.some.injEq] at h
        subst h
        simp only [Bool.and_eq_true] at hc
        obtain ⟨⟨⟨c1, c2⟩, c3⟩, c4⟩ := hc
        have hlev := Nat.le_of_ble_eq_true c2
        have hle := Nat.le_of_ble_eq_true c4
        obtain ⟨hP, hone⟩ := avCells_ok hys hy
        obtain ⟨hn0, b', vs, ty', z, hK, hheap, hl, hone0, hrel⟩ := hob
        rw [hk] at hK
        simp only [Option.some.injEq, Prod.mk.injEq, Addr.mk.injEq] at hK
        obtain ⟨⟨rfl, _⟩, hz⟩ := hK
        have hsz : szOf P ty = some u.cells.size := by
          cases hS : szOf P ty with
          | none => rw [hS] at c1; simp at c1
          | some m =>
            rw [hS] at c1
            simp only [Option.any_some] at c1
            have := beq_eq c1
            have h2 := hP.1
            simp only [Array.length_toList] at h2
            rw [← this, h2]
        have hlu : u.cells.toList.length = ys.length := hP.1
        obtain ⟨w', hw1, hw2, hw3⟩ := storeCells_ok P b ty' (0, 0) u.cells.toList off 0 vs w hheap (by simp) (by rw [hlu]; omega) (fun z hz => by obtain ⟨j, hj⟩ := List.mem_iff_getElem?.1 hz; exact hone j z hj)
        have hown : (σ.H l t).own K l t b := by rw [hO]; exact ⟨_, hk⟩
        have hch : Ch (fun b' => (σ.H l t).own K l t b') w w' := hw3.mono (fun b' e => e ▸ hown)
        have howneq : ∀ b', (AObj.box (cs.take off ++ ys ++ cs.drop (off + ys.length))).own K l t b' → (σ.H l t).own K l t b' ∨ w.heap.size ≤ b' := fun b' hb' => .inl (by rw [hO]; exact hb')
        have hkp := Keeps.write hR.hr hch (fun _ _ _ => rfl) howneq
        have hob' : Robj (badOf E.S0 K (σ.H.set l t (.box (cs.take off ++ ys ++ cs.drop (off + ys.length))))) K w' l t (.box (cs.take off ++ ys ++ cs.drop (off + ys.length))) := by
          refine ⟨hn0, b, _, ty', _, hk, hw2, ?_, ?_, ?_⟩
          · simp only [Nat.add_zero, List.length_append, List.length_take, List.length_drop, hlu]; omega
          · intro j z hz
            simp only [Nat.add_zero] at hz
            have hmem := List.mem_of_getElem? hz
            simp only [List.mem_append] at hmem
            rcases hmem with (hm | hm) | hm
            · obtain ⟨j', hj'⟩ := List.mem_iff_getElem?.1 (List.mem_of_mem_take hm)
              exact hone0 _ _ hj'
            · obtain ⟨j', hj'⟩ := List.mem_iff_getElem?.1 hm
              exact hone _ _ hj'
            · obtain ⟨j', hj'⟩ := List.mem_iff_getElem?.1 (List.mem_of_mem_drop hm)
              exact hone0 _ _ hj'
          · have p1 : P2 (Rv (badOf E.S0 K σ.H) K w) cs vs := ⟨hl, hrel⟩
            have := ((p1.take off).append hP).append (p1.drop (off + ys.length))
            have h2 := this.mono (fun c x hcx => hcx.mono hkp (fun _ _ _ _ hz => hz))
            simp only [Nat.add_zero, hlu]
            exact h2.2
        have hbel' : (AObj.box (cs.take off ++ ys ++ cs.drop (off + ys.length))).bel (l + 1) = true := by
          have h0 := hR.hr.hb l t
          rw [hO] at h0
          simp only [AObj.bel] at h0 ⊢
          rw [AVal.belL_iff] at h0 ⊢
          intro z hz
          simp only [List.mem_append] at hz
          rcases hz with (hz | hz) | hz
          · exact h0 z (List.mem_of_mem_take hz)
          · exact (AVal.belL_iff _ _).1 c3 z hz
          · exact h0 z (List.mem_of_mem_drop hz)
        have hr' := hR.hr.write hch (fun _ _ _ _ hz => hz) (fun _ _ _ => rfl) howneq hob' hbel' hlev
        exact ⟨undef, w', K, .inr ⟨run_store_op ho hv (by rw [hu]; exact run_storeVar hsz hw1), rfl⟩, hR.put hd hr' hkp (fun _ _ _ _ hz => hz) .any rfl⟩
    | _ => rw [hO] at h; cases h
  | elt hk =>
    rename_i l t k i j cap sz b off
    simp only at h
    obtain ⟨⟨yd, σ1⟩, hfz, h⟩ := Option.bind_eq_some_iff.1 h
    obtain ⟨F, G⟩ := frzV_ok hR hfz
    have hR1 := F.rel a hR
    have hrd := G u hy
    simp only at h
    have hob := hR1.hr.ob l t
    cases hO : σ1.H l t with
    | arr sz' xs =>
      rw [hO] at h hob
      simp only at h
      obtain ⟨e, he, h⟩ := Option.bind_eq_some_iff.1 h
      cases hc : ((szOf P ty).any (Nat.beq yd.cells.length) && Nat.beq k xs.length && Nat.ble l σ.lev && Nat.ble (j + yd.cells.length) sz') with
      | false => rw [hc] at h; cases h
      | true =>
        rw [hc] at h
        simp only [cond_true, Option.some.injEq] at h
        subst h
        simp only [Bool.and_eq_true] at hc
        obtain ⟨⟨⟨c1, c2⟩, c3⟩, c4⟩ := hc
        have hlev := Nat.le_of_ble_eq_true c3
        have hle := Nat.le_of_ble_eq_true c4
        have hkx := beq_eq c2
        subst hkx
        obtain ⟨hn0, ad, cap', hK, hs, hcap, hat⟩ := hob
        rw [hk] at hK
        simp only [Option.some.injEq, Prod.mk.injEq] at hK
        obtain ⟨rfl, rfl, rfl⟩ := hK
        obtain ⟨_, vs, ty', fz, h2, h3, h4, h5⟩ := hat
        simp only at h2 h4 h5
        obtain ⟨hP, hone⟩ := cells_of_rd hrd
        have hel : e.cells.length = sz := hs e (List.mem_of_getElem? he)
        have hsz : szOf P ty = some u.cells.size := by
          cases hS : szOf P ty with
          | none => rw [hS] at c1; simp at c1
          | some m =>
            rw [hS] at c1
            simp only [Option.any_some] at c1
            have := beq_eq c1
            have h2 := hP.1
            simp only [Array.length_toList] at h2
            rw [← this, h2]
        have hlu : u.cells.toList.length = yd.cells.length := hP.1
        have hfl := flat_len hs
        have hilt : i < xs.length := (List.getElem?_eq_some_iff.1 he).1
        have hmul : i * sz + sz ≤ xs.length * sz := by
          have := Nat.mul_le_mul_right sz hilt
          rw [Nat.succ_mul] at this
          exact this
        have hmul2 : xs.length * sz ≤ cap * sz := Nat.mul_le_mul_right sz hcap
        obtain ⟨w', hw1, hw2, hw3⟩ := storeCells_ok P b ty' fz u.cells.toList (off + i * sz + j) 0 vs w h2 h3 (by rw [hlu]; omega) (fun z hz => by obtain ⟨j, hj⟩ := List.mem_iff_getElem?.1 hz; exact hone j z hj)
        have hown : (σ1.H l t).own K l t b := by rw [hO]; exact ⟨off, _, hk⟩
        have hch : Ch (fun b' => (σ1.H l t).own K l t b') w w' := hw3.mono (fun b' e => e ▸ hown)
        have howneq : ∀ b', (AObj.arr sz (xs.set i (newElem e yd j))).own K l t b' → (σ1.H l t).own K l t b' ∨ w.heap.size ≤ b' := fun b' hb' => .inl (by
          rw [hO]
          simp only [AObj.own, List.length_set] at hb' ⊢
          exact hb')
        have hkp := Keeps.write hR1.hr hch (fun _ _ _ => rfl) howneq
        have hne := newElem_cells (e := e) (y := yd) (j := j) (by omega)
        have hfs := flat_set hs he j yd.cells hle hne
        have hob' : Robj (badOf E.S0 K (σ1.H.set l t (.arr sz (xs.set i (newElem e yd j))))) K w' l t (.arr sz (xs.set i (newElem e yd j))) := by
          refine ⟨by simpa using hn0, some ⟨b, off, none⟩, cap, by simpa using hk, ?_, by simpa using hcap, rfl, _, ty', fz, hw2, ?_, ?_, ?_⟩
          · intro x hx
            rcases List.mem_or_eq_of_mem_set hx with hx | hx
            · exact hs x hx
            · subst hx
              rw [hne]
              simp only [List.length_append, List.length_take, List.length_drop]; omega
          · intro j' hj'
            refine h3 j' ?_
            simp only [List.length_append, List.length_take, List.length_drop, hlu] at hj'
            omega
          · simp only [List.length_append, List.length_take, List.length_drop, hlu]; omega
          · intro j' c hc
            rw [hfs] at hc
            simp only [Nat.add_zero, hlu]
            -- the three parts
            have hlen1 : ((xs.flatMap DVal.cells).take (i * sz + j)).length = i * sz + j := by rw [List.length_take, hfl]; omega
            have hlen2 : (vs.take (off + i * sz + j)).length = off + i * sz + j := by rw [List.length_take]; omega
            have ht : ∀ c u, (vs[off + j']? = some u ∧ u.oneCell' = true ∧ Rd (badOf E.S0 K σ1.H) w c u) → vs[off + j']? = some u ∧ u.oneCell' = true ∧ Rd (badOf E.S0 K (σ1.H.set l t (.arr sz (xs.set i (newElem e yd j))))) w' c u := fun c u ⟨a1, a2, a3⟩ => ⟨a1, a2, a3.mono hkp⟩
            rcases Nat.lt_or_ge j' (i * sz + j) with q1 | q1
            · rw [List.append_assoc, List.getElem?_append_left (by omega), List.getElem?_take_of_lt q1] at hc
              obtain ⟨u', hu'⟩ := h5 j' c hc
              obtain ⟨a1, a2, a3⟩ := ht c u' hu'
              refine ⟨u', ?_, a2, a3⟩
              rw [List.append_assoc, List.getElem?_append_left (by omega), List.getElem?_take_of_lt (by omega)]
              exact a1
            · rcases Nat.lt_or_ge j' (i * sz + j + yd.cells.length) with q2 | q2
              · rw [List.append_assoc, List.getElem?_append_right (by omega), List.getElem?_append_left (by omega), hlen1] at hc
                have hlt : j' - (i * sz + j) < u.cells.toList.length := by omega
                have hg := hP.2 _ c _ hc (List.getElem?_eq_getElem hlt)
                refine ⟨u.cells.toList[j' - (i * sz + j)], ?_, hone _ _ (List.getElem?_eq_getElem hlt), hg.mono hkp⟩
                rw [List.append_assoc, List.getElem?_append_right (by omega), List.getElem?_append_left (by omega), hlen2]
                rw [← List.getElem?_eq_getElem hlt]
                congr 1
                omega
              · rw [List.getElem?_append_right (by rw [List.length_append]; omega), List.length_append, hlen1, List.getElem?_drop] at hc
                have e1 : i * sz + j + yd.cells.length + (j' - (i * sz + j + yd.cells.length)) = j' := by omega
                rw [e1] at hc
                obtain ⟨u', hu'⟩ := h5 j' c hc
                obtain ⟨a1, a2, a3⟩ := ht c u' hu'
                refine ⟨u', ?_, a2, a3⟩
                rw [List.getElem?_append_right (by rw [List.length_append]; omega), List.length_append, hlen2, hlu, List.getElem?_drop]
                have e2 : off + i * sz + j + yd.cells.length + (off + j' - (off + i * sz + j + yd.cells.length)) = off + j' := by omega
                rw [e2]
                exact a1
        have hr' := hR1.hr.write hch (fun _ _ _ _ hz => hz) (fun _ _ _ => rfl) howneq hob' rfl (by rw [F.lev]; exact hlev)
        exact ⟨undef, w', K, .inr ⟨run_store_op ho hv (by rw [hu]; exact run_storeVar hsz hw1), rfl⟩, hR1.put (by rw [F.n]; exact hd) hr' hkp (fun _ _ _ _ hz => hz) .any rfl⟩
    | _ => rw [hO] at h; cases h
  | _ => cases h
end Go.Fw
