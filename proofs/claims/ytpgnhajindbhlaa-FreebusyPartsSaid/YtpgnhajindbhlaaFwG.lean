/- Reading and writing variables. -/
import Derived.Test.YtpgnhajindbhlaaFwF
set_option autoImplicit false
namespace Go.Fw
theorem flat_get {sz : Nat} : ∀ {xs : List DVal} (_ : ∀ x ∈ xs, x.cells.length = sz) {i : Nat} {e : DVal} (_ : xs[i]? = some e) (j : Nat), j < sz → (xs.flatMap DVal.cells)[i * sz + j]? = e.cells[j]?
  | [], _, i, e, hi, _, _ => by simp at hi
  | x :: r, hs, i, e, hi, j, hj => by
    have hx := hs x (by simp)
    simp only [List.flatMap_cons]
    cases i with
    | zero =>
      simp only [List.getElem?_cons_zero, Option.some.injEq] at hi
      subst hi
      rw [List.getElem?_append_left (by omega)]
      simp
    | succ i =>
      simp only [List.getElem?_cons_succ] at hi
      rw [List.getElem?_append_right (by rw [hx, Nat.succ_mul]; omega), hx]
      have := flat_get (fun y hy => hs y (by simp [hy])) hi j hj
      rw [← this]
      congr 1
      rw [Nat.succ_mul]; omega
theorem flat_len {sz : Nat} : ∀ {xs : List DVal} (_ : ∀ x ∈ xs, x.cells.length = sz), (xs.flatMap DVal.cells).length = xs.length * sz
  | [], _ => by simp
  | x :: r, hs => by
    have hx := hs x (by simp)
    have ih := flat_len (xs := r) (fun y hy => hs y (List.mem_cons_of_mem _ hy))
    simp only [List.flatMap_cons, List.length_append, hx, ih, List.length_cons]
    rw [Nat.succ_mul]; omega

theorem Addr.addo (b o n : Nat) : (⟨b, o, none⟩ : Addr).add n = ⟨b, o + n, none⟩ := Go.Addr.add_mid b o n

theorem ld_run {P : Program} {E : Env} {σ : St} {a : Act} {w : World} {K : Kt} {o : Oper} {ty : TypeId} {x : Operand} {n : Nat} {g : Bool} {b off : Nat} {cs : List DVal} {vs : List Value} {y : DVal} (hR : Rel E σ a w K) (ho : o.op = .load ty x) (hd : okDst σ.n o.dst = true)
    (hn : szOf P ty = some n) (hg : aggOf P ty = some g) (hx : a.eval x = .pointer (some ⟨b, off, none⟩)) (hc : ∀ (j : Nat) (u : Value), vs[j]? = some u → w.cell? ⟨b, off + j, none⟩ = some u)
    (h1 : ∀ (j : Nat) (u : Value), vs[j]? = some u → u.oneCell' = true) (hp : P2 (Rd (badOf E.S0 K σ.H) w) cs vs) (hl : ldData g n cs = some y) :
    ∃ (v : Value) (w' : World) (K' : Kt), ((execOp a.eval o).run P w = .ok (.value v) w' ∨ ((execOp a.eval o).run P w = .ok .skip w' ∧ v = undef)) ∧ Rel E (σ.put o.dst (.d y)) (a.put o.dst v) w' K' := by
  cases g with
  | true =>
    simp only [ldData, cond_true] at hl
    cases hb : Nat.ble n cs.length with
    | false => rw [hb] at hl; cases hl
    | true =>
      rw [hb] at hl
      simp only [cond_true, Option.some.injEq] at hl
      subst hl
      have hle := Nat.le_of_ble_eq_true hb
      have hrun := run_loadVar (w := w) (b := b) (o := off) (vs := vs.take n) hn hg (fun _ => by simp [hp.1]; omega) (fun h => by cases h) (fun j u hu => by
        rw [List.getElem?_take] at hu
        split at hu
        · exact hc j u hu
        · cases hu)
      refine ⟨_, w, K, .inl ?_, hR.put_pure hd (.d (Rd.agg (vs := vs.take n) (by simp [hp.1]) ?_ (hp.take n).2)) rfl⟩
      · simp [execOp, ho, hx, Instr.loadAt, Instr.sureAddr, hrun]
      · intro j u hu
        rw [List.getElem?_take] at hu
        split at hu
        · exact h1 j u hu
        · cases hu
  | false =>
    simp only [ldData, cond_false] at hl
    cases cs with
    | nil => cases hl
    | cons c r =>
      simp only [List.head?_cons, Option.some.injEq] at hl
      subst hl
      cases vs with
      | nil => have := hp.1; simp at this
      | cons u us =>
        have hrun := run_loadVar (w := w) (b := b) (o := off) (vs := [u]) hn hg (fun h => by cases h) (fun _ => rfl) (fun j z hz => by
          cases j with
          | zero => exact hc 0 z (by simpa using hz)
          | succ j => simp at hz)
        refine ⟨u, w, K, .inl ?_, hR.put_pure hd (.d (hp.2 0 c u rfl rfl)) rfl⟩
        simp [execOp, ho, hx, Instr.loadAt, Instr.sureAddr, hrun]

theorem ld_arr {P : Program} {E : Env} {σ σ' : St} {a : Act} {w : World} {K : Kt} {o : Oper} {ty : TypeId} {x : Operand} {n : Nat} {g : Bool} {l t i j b off k cap sz cap' sz' : Nat} {xs : List DVal} {e : DVal} {ad : Option Addr} {f : Nat → Value} (hR : Rel E σ a w K) (ho : o.op = .load ty x) (hd : okDst σ.n o.dst = true)
    (hn : szOf P ty = some n) (hg : aggOf P ty = some g) (hx : a.eval x = .pointer (some ⟨b, off + i * sz + j, none⟩)) (hk : K l t k = some (some ⟨b, off, none⟩, cap, sz)) (hkx : k = xs.length) (hK : K l t xs.length = some (ad, cap', sz'))
    (hs : ∀ x ∈ xs, x.cells.length = sz') (he : xs[i]? = some e)
    (hat : ∀ ad', ad = some ad' → ∀ (j : Nat) (c : DVal), (xs.flatMap DVal.cells)[j]? = some c → w.cell? ⟨ad'.block, ad'.off + j, none⟩ = some (f j) ∧ (f j).oneCell' = true ∧ Rd (badOf E.S0 K σ.H) w c (f j))
    (h : ((ldData g n (e.cells.drop j)).map fun y => σ.put o.dst (.d y)) = some σ') :
    ∃ (v : Value) (w' : World) (K' : Kt), ((execOp a.eval o).run P w = .ok (.value v) w' ∨ ((execOp a.eval o).run P w = .ok .skip w' ∧ v = undef)) ∧ Rel E σ' (a.put o.dst v) w' K' := by
  subst hkx
  rw [hk] at hK
  simp only [Option.some.injEq, Prod.mk.injEq] at hK
  obtain ⟨rfl, rfl, rfl⟩ := hK
  have hat' := hat _ rfl
  obtain ⟨y, hy, rfl⟩ := Option.map_eq_some_iff.1 h
  have hel : e.cells.length = sz := hs e (List.mem_of_getElem? he)
  have hget : ∀ j' c, (e.cells.drop j)[j']? = some c → (xs.flatMap DVal.cells)[i * sz + (j + j')]? = some c := fun j' c hc => by
    rw [List.getElem?_drop] at hc
    have hlt : j + j' < sz := by have := (List.getElem?_eq_some_iff.1 hc).1; omega
    rw [flat_get hs he (j + j') hlt]
    exact hc
  refine ld_run (vs := (List.range (e.cells.drop j).length).map fun j' => f (i * sz + (j + j'))) hR ho hd hn hg hx (fun j' u hu => ?_) (fun j' u hu => ?_) ⟨by simp, fun j' c u hc hu => ?_⟩ hy
  · rw [List.getElem?_map] at hu
    obtain ⟨q, hq, rfl⟩ := Option.map_eq_some_iff.1 hu
    have hq1 : j' < (e.cells.drop j).length := by
      rcases Nat.lt_or_ge j' (e.cells.drop j).length with h | h
      · exact h
      · rw [List.getElem?_eq_none (by simpa using h)] at hq; cases hq
    rw [List.getElem?_range hq1] at hq
    simp only [Option.some.injEq] at hq
    subst hq
    have := (hat' _ _ (hget j' _ (List.getElem?_eq_getElem hq1))).1
    rw [← this]
    congr 2
    simp only
    omega
  · rw [List.getElem?_map] at hu
    obtain ⟨q, hq, rfl⟩ := Option.map_eq_some_iff.1 hu
    have hlt : j' < (e.cells.drop j).length := by
      rcases Nat.lt_or_ge j' (e.cells.drop j).length with h | h
      · exact h
      · rw [List.getElem?_eq_none (by simpa using h)] at hq; cases hq
    rw [List.getElem?_range hlt] at hq
    simp only [Option.some.injEq] at hq
    subst hq
    exact (hat' _ _ (hget j' _ (List.getElem?_eq_getElem hlt))).2.1
  · rw [List.getElem?_map] at hu
    obtain ⟨q, hq, rfl⟩ := Option.map_eq_some_iff.1 hu
    have hlt : j' < (e.cells.drop j).length := (List.getElem?_eq_some_iff.1 hc).1
    rw [List.getElem?_range hlt] at hq
    simp only [Option.some.injEq] at hq
    subst hq
    exact (hat' _ _ (hget j' c hc)).2.2

theorem load_ok {P : Program} {σ σ' : St} {o : Oper} {ty : TypeId} {x : Operand} (ho : o.op = .load ty x) (hd : okDst σ.n o.dst = true) (h : stLoad P σ o.dst ty (evO σ x) = some σ') : OpOk P o σ σ' := by
  intro E a w K hR
  unfold stLoad at h
  obtain ⟨n, hn, h⟩ := Option.bind_eq_some_iff.1 h
  obtain ⟨g, hg, h⟩ := Option.bind_eq_some_iff.1 h
  have hx := hR.ev x
  generalize hv : a.eval x = v at hx
  generalize hq : evO σ x = q at hx h
  cases hx with
  | ptr hk =>
    rename_i l t off b cap sz
    simp only at h
    have hob := hR.hr.ob l t
    cases hO : σ.H l t with
    | box cs =>
      rw [hO] at h hob
      simp only at h
      obtain ⟨⟨y, σ1⟩, h1, rfl⟩ := Option.map_eq_some_iff.1 h
      obtain ⟨_, b', vs, ty', z, hK, hheap, hl, hone, hrel⟩ := hob
      rw [hk] at hK
      simp only [Option.some.injEq, Prod.mk.injEq, Addr.mk.injEq] at hK
      obtain ⟨⟨rfl, _⟩, _⟩ := hK
      have hp : P2 (Rv (badOf E.S0 K σ.H) K w) (cs.drop off) (vs.drop off) := P2.drop ⟨hl, hrel⟩ off
      have hcell : ∀ (j : Nat) (u : Value), (vs.drop off)[j]? = some u → w.cell? ⟨b, off + j, none⟩ = some u := fun j u hu => by
        rw [List.getElem?_drop] at hu
        simp [World.cell?, hheap, hu]
      have hone' : ∀ (j : Nat) (u : Value), (vs.drop off)[j]? = some u → u.oneCell' = true := fun j u hu => by
        rw [List.getElem?_drop] at hu
        exact hone _ u hu
      cases g with
      | true =>
        simp only [ldCells, cond_true] at h1
        cases hb : Nat.ble n (cs.drop off).length with
        | false => rw [hb] at h1; cases h1
        | true =>
          rw [hb] at h1
          simp only [cond_true] at h1
          obtain ⟨⟨ds, σ2⟩, h2, he⟩ := Option.map_eq_some_iff.1 h1
          simp only [Prod.mk.injEq] at he
          obtain ⟨rfl, rfl⟩ := he
          obtain ⟨hfz, hlen, hrd⟩ := frzL_ok hR h2
          have hle := Nat.le_of_ble_eq_true hb
          have hp2 := hp.take n
          have hdl : ds.length = n := by rw [hlen]; simp only [List.length_take]; omega
          have hrun := run_loadVar (w := w) (b := b) (o := off) (vs := (vs.drop off).take n) hn hg (fun _ => by rw [hp2.1]; simp only [List.length_take]; omega) (fun h => by cases h) (fun j u hu => by
            rw [List.getElem?_take] at hu
            split at hu
            · exact hcell j u hu
            · cases hu)
          refine ⟨_, w, K, .inl (by simp [execOp, ho, hv, Instr.loadAt, Instr.sureAddr, hrun]), (hfz.rel a hR).put_pure (by rw [hfz.n]; exact hd) (.d (Rd.agg (vs := (vs.drop off).take n) (by rw [hp2.1, hlen]) ?_ ?_)) rfl⟩
          · intro j u hu
            rw [List.getElem?_take] at hu
            split at hu
            · exact hone' j u hu
            · cases hu
          · intro j c u hc hu
            have hj : j < ((cs.drop off).take n).length := by rw [← hlen]; exact (List.getElem?_eq_some_iff.1 hc).1
            exact hrd j _ c u (List.getElem?_eq_getElem hj) hc (hp2.2 j _ u (List.getElem?_eq_getElem hj) hu)
      | false =>
        simp only [ldCells, cond_false] at h1
        cases hcs : cs.drop off with
        | nil => rw [hcs] at h1; cases h1
        | cons c r =>
          rw [hcs] at h1 hp
          simp only [List.head?_cons, Option.map_some, Option.some.injEq, Prod.mk.injEq] at h1
          obtain ⟨rfl, rfl⟩ := h1
          cases hvs : vs.drop off with
          | nil => rw [hvs] at hp; have := hp.1; simp at this
          | cons u us =>
            rw [hvs] at hp hcell
            have hrun := run_loadVar (w := w) (b := b) (o := off) (vs := [u]) hn hg (fun h => by cases h) (fun _ => rfl) (fun j z hz => by
              cases j with
              | zero => exact hcell 0 z (by simpa using hz)
              | succ j => simp at hz)
            refine ⟨u, w, K, .inl (by simp [execOp, ho, hv, Instr.loadAt, Instr.sureAddr, hrun]), hR.put_pure hd (hp.2 0 c u rfl rfl) ?_⟩
            have hbb := hR.hr.hb l t
            rw [hO] at hbb
            have hmem : c ∈ cs := List.mem_of_mem_drop (i := off) (by rw [hcs]; simp)
            have hbl : l ≤ σ.lev := by
              rcases Nat.lt_or_ge σ.lev l with h | h
              · have := hR.hr.top l t h; rw [hO] at this; cases this
              · exact h
            exact AVal.bel_mono (by omega) _ ((AVal.belL_iff _ _).1 hbb c hmem)
    | _ => rw [hO] at h; cases h
  | cptr hw h1 hr =>
    rename_i cs b off f
    simp only at h
    obtain ⟨y, hy, rfl⟩ := Option.map_eq_some_iff.1 h
    refine ld_run (vs := (List.range cs.length).map f) hR ho hd hn hg hv (fun j u hu => ?_) (fun j u hu => ?_) ⟨by simp, fun j c u hc hu => ?_⟩ hy
    all_goals
      rw [List.getElem?_map] at hu
      obtain ⟨q, hq, rfl⟩ := Option.map_eq_some_iff.1 hu
      have hlt : j < cs.length := by
        rcases Nat.lt_or_ge j cs.length with h | h
        · exact h
        · rw [List.getElem?_eq_none (by simpa using h)] at hq; cases hq
      rw [List.getElem?_range hlt] at hq
      simp only [Option.some.injEq] at hq
      subst hq
    · exact (hw j hlt).2
    · exact h1 j hlt
    · exact hr j c hc
  | elt hk =>
    rename_i l t k i j cap sz b off
    simp only at h
    have hob := hR.hr.ob l t
    cases hO : σ.H l t with
    | arr sz' xs =>
      rw [hO] at h hob
      simp only at h
      cases hc : Nat.beq k xs.length with
      | false => rw [hc] at h; cases h
      | true =>
        rw [hc] at h
        simp only [cond_true] at h
        obtain ⟨e, he, h⟩ := Option.bind_eq_some_iff.1 h
        obtain ⟨_, ad, cap', hK, hs, _, hat⟩ := hob
        refine ld_arr (f := fun j => match ad with | some ad' => (w.cell? ⟨ad'.block, ad'.off + j, none⟩).getD default | none => default) hR ho hd hn hg hv hk (beq_eq hc) hK hs he (fun ad' e' j c hjc => ?_) h
        subst e'
        obtain ⟨_, vs, ty', fz, h2, _, _, h5⟩ := hat
        obtain ⟨u, hu, hu1, hu2⟩ := h5 j c hjc
        have hcell : w.cell? ⟨ad'.block, ad'.off + j, none⟩ = some u := by simp [World.cell?, h2, hu]
        simp only [hcell, Option.getD_some]
        exact ⟨trivial, hu1, hu2⟩
    | frz xs =>
      rw [hO] at h hob
      simp only at h
      cases hc : Nat.beq k xs.length with
      | false => rw [hc] at h; cases h
      | true =>
        rw [hc] at h
        simp only [cond_true] at h
        obtain ⟨e, he, h⟩ := Option.bind_eq_some_iff.1 h
        obtain ⟨ad, cap', sz', hK, hss, hrd⟩ := hob
        generalize hG : Value.slice ad xs.length cap' = G at hrd
        cases hrd with
        | list hs hc' hw h1 hr ha =>
          rename_i ad2 cap2 sz2 b2 o2 f
          simp only [Value.slice.injEq] at hG
          obtain ⟨rfl, _, rfl⟩ := hG
          have hne : xs ≠ [] := fun e => by rw [e] at he; simp at he
          refine ld_arr (f := f) hR ho hd hn hg hv hk (beq_eq hc) hK hss he (fun ad' e' j c hjc => ?_) h
          have ha' := ha hne
          rw [e'] at ha'
          simp only [Option.some.injEq] at ha'
          subst ha'
          have hlt := (List.getElem?_eq_some_iff.1 hjc).1
          exact ⟨(hw j hlt).2, h1 j hlt, hr j c hjc⟩
    | _ => rw [hO] at h; cases h
  | _ => cases h
end Go.Fw
