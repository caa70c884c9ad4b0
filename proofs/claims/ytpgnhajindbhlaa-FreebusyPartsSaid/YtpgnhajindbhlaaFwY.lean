/- Results handed back as they are: references to the caller's objects; calls of functions with closures. -/
import Derived.Test.YtpgnhajindbhlaaFwW
set_option autoImplicit false
namespace Go.Fw
def Hp.cut (lev : Nat) (H : Hp) : Hp := fun l t => bif Nat.blt l lev then H l t else .dead
def frzR (lev : Nat) (σ : St) (x : AVal) : Option (AVal × St) := bif x.bel lev then some (x, σ) else (frzV σ x).map fun p => (.d p.1, p.2)
theorem frzR_ok {E : Env} {lev : Nat} {σ σ' : St} {a : Act} {w : World} {K : Kt} {x y : AVal} (h : Rel E σ a w K) (hf : frzR lev σ x = some (y, σ')) :
    Frz E w K σ σ' ∧ y.bel lev = true ∧ ∀ v, Rv (badOf E.S0 K σ.H) K w x v → Rv (badOf E.S0 K σ'.H) K w y v := by
  unfold frzR at hf
  cases hb : x.bel lev with
  | true =>
    rw [hb] at hf
    simp only [cond_true, Option.some.injEq, Prod.mk.injEq] at hf
    obtain ⟨rfl, rfl⟩ := hf
    exact ⟨Frz.refl _, hb, fun _ h => h⟩
  | false =>
    rw [hb] at hf
    simp only [cond_false] at hf
    obtain ⟨⟨d, σ1⟩, h1, he⟩ := Option.map_eq_some_iff.1 hf
    simp only [Prod.mk.injEq] at he
    obtain ⟨rfl, rfl⟩ := he
    obtain ⟨F, G⟩ := frzV_ok h h1
    exact ⟨F, rfl, fun v hv => .d (G v hv)⟩
def resW (P : Program) (lev : Nat) (σ : St) : List ResultVar → Option (List AVal × St)
  | [] => some ([], σ)
  | .tmp t :: r => (frzR lev σ (lk σ.T t)).bind fun p => (resW P lev p.2 r).map fun q => (p.1 :: q.1, q.2)
  | .cell a ty :: r =>
    match lk σ.T a with
    | .ptr l t off =>
      match σ.H l t with
      | .box cs => (szOf P ty).bind fun n => (aggOf P ty).bind fun g => (ldCells g n σ (cs.drop off)).bind fun y => (frzR lev y.2 y.1).bind fun p => (resW P lev p.2 r).map fun q => (p.1 :: q.1, q.2)
      | _ => none
    | _ => none
theorem resW_ok {P : Program} {E : Env} {lev : Nat} {a : Act} {w : World} {K : Kt} : ∀ {rs : List ResultVar} {σ σ' : St} {ds : List AVal}, Rel E σ a w K → resW P lev σ rs = some (ds, σ') →
    Frz E w K σ σ' ∧ AVal.belL lev ds = true ∧ ∃ vs, (rs.mapM (resOne a.tmps)).run P w = .ok vs w ∧ P2 (Rv (badOf E.S0 K σ'.H) K w) ds vs
  | [], σ, σ', ds, hR, h => by
    simp only [resW, Option.some.injEq, Prod.mk.injEq] at h
    obtain ⟨rfl, rfl⟩ := h
    exact ⟨Frz.refl _, rfl, [], rfl, rfl, by simp⟩
  | .tmp t :: r, σ, σ', ds, hR, h => by
    simp only [resW] at h
    obtain ⟨⟨y, σ1⟩, h1, h⟩ := Option.bind_eq_some_iff.1 h
    obtain ⟨⟨ys, σ2⟩, h2, he⟩ := Option.map_eq_some_iff.1 h
    simp only [Prod.mk.injEq] at he
    obtain ⟨rfl, rfl⟩ := he
    obtain ⟨F1, B1, G1⟩ := frzR_ok hR h1
    obtain ⟨F2, B2, vs, hrun, hp⟩ := resW_ok (F1.rel a hR) h2
    refine ⟨F1.trans F2, by simp only [AVal.belL, B1, B2, Bool.and_self], a.tmps.getD t undef :: vs, ?_, ?_⟩
    · simp [List.mapM_cons, resOne, hrun]
    · refine ⟨by simp [hp.1], fun j c x hc hx => ?_⟩
      cases j with
      | zero =>
        simp only [List.getElem?_cons_zero, Option.some.injEq] at hc hx
        subst hc hx
        exact (G1 _ (hR.tm t)).mono F2.keeps (fun _ _ _ _ hz => hz)
      | succ j => exact hp.2 j c x (by simpa using hc) (by simpa using hx)
  | .cell ad ty :: r, σ, σ', ds, hR, h => by
    simp only [resW] at h
    have hx := hR.tm ad
    generalize hv : a.tmps.getD ad undef = v at hx
    generalize lk σ.T ad = q at hx h
    cases hx with
    | ptr hk =>
      rename_i l t off b cap sz
      simp only at h
      cases hO : σ.H l t with
      | box cs =>
        rw [hO] at h
        simp only at h
        obtain ⟨n, hn, h⟩ := Option.bind_eq_some_iff.1 h
        obtain ⟨g, hg, h⟩ := Option.bind_eq_some_iff.1 h
        obtain ⟨⟨y, σ1⟩, h1, h⟩ := Option.bind_eq_some_iff.1 h
        obtain ⟨⟨d, σ2⟩, h2, h⟩ := Option.bind_eq_some_iff.1 h
        obtain ⟨⟨ys, σ3⟩, h3, he⟩ := Option.map_eq_some_iff.1 h
        simp only [Prod.mk.injEq] at he
        obtain ⟨rfl, rfl⟩ := he
        obtain ⟨F1, v, hrun1, hrv⟩ := ldBox_ok hR hk hO hn hg h1
        have hR1 := F1.rel a hR
        obtain ⟨F2, B2, G2⟩ := frzR_ok hR1 h2
        have hR2 := F2.rel a hR1
        obtain ⟨F3, B3, vs, hrun, hp⟩ := resW_ok hR2 h3
        refine ⟨(F1.trans F2).trans F3, by simp only [AVal.belL, B2, B3, Bool.and_self], v :: vs, ?_, ?_⟩
        · simp [List.mapM_cons, resOne, hv, asAddr, hrun1, hrun]
        · refine ⟨by simp [hp.1], fun j c x hc hx => ?_⟩
          cases j with
          | zero =>
            simp only [List.getElem?_cons_zero, Option.some.injEq] at hc hx
            subst hc hx
            exact (G2 _ hrv).mono F3.keeps (fun _ _ _ _ hz => hz)
          | succ j => exact hp.2 j c x (by simpa using hc) (by simpa using hx)
      | _ => rw [hO] at h; cases h
    | _ => cases h
def retW : List AVal → AVal
  | [x] => x
  | xs => .tup xs
def aResW (lev : Nat) (Q : AVal → Hp → Prop) : Option (List AVal × St) → Prop
  | some p => Q (retW p.1) (p.2.H.cut lev)
  | none => False
def EndsW (P : Program) (fn : Func) (lev : Nat) (Q : AVal → Hp → Prop) : Exit → St → Prop
  | .normal, σ => σ.lev = lev ∧ aResW lev Q (resW P lev σ fn.results.toList)
  | .ret, σ => σ.lev = lev ∧ aResW lev Q (resW P lev σ fn.results.toList)
  | _, _ => False
theorem acalls_w {P : Program} {f : FuncId} {fn : Func} {c : Code} {args : List AVal} {lev : Nat} {H : Hp} {Q : AVal → Hp → Prop} (hf : P.funcs[f]? = some fn) (hb : fn.body = some c) (hn : hasBody P f = true) (hl : args.length ≤ fn.ntmps)
    (h : (∀ l t, lev ≤ l → H l t = .dead) → AVal.belL lev args = true → awp P c (EndsW P fn lev Q) (entry fn.ntmps lev args H)) : ACalls P f args lev H Q := by
  refine ⟨hn, fun S0 w K vs hp hbel hdead hH => ?_⟩
  have hvl : vs.length = args.length := hp.1
  have hR : Rel ⟨S0, ownsIn K H, badOf S0 K H, K, w⟩ (entry fn.ntmps lev args H) { tmps := (⟨vs⟩ : Array Value) ++ Array.replicate (fn.ntmps - (⟨vs⟩ : Array Value).size) undef, defers := [] } w K := by
    refine ⟨?_, rfl, fun t => ?_, fun t => ?_, hH⟩
    · simp only [entry, Array.size_append, Array.size_replicate]
      have : (⟨vs⟩ : Array Value).size = vs.length := rfl
      omega
    · simp only [entry, lk_argT, Nat.zero_le, if_true, Nat.sub_zero]
      cases ha : args[t]? with
      | none => exact .any
      | some x =>
        simp only [Option.getD_some]
        have hlt : t < vs.length := by rw [hvl]; exact (List.getElem?_eq_some_iff.1 ha).1
        have e : ((⟨vs⟩ : Array Value) ++ Array.replicate (fn.ntmps - (⟨vs⟩ : Array Value).size) undef).getD t undef = vs[t] := by
          rw [Array.getD_eq_getD_getElem?, Array.getElem?_append_left (by simpa using hlt)]
          simp [hlt]
        rw [e]
        exact hp.2 t x _ ha (List.getElem?_eq_getElem hlt)
    · simp only [entry, lk_argT, Nat.zero_le, if_true, Nat.sub_zero]
      cases ha : args[t]? with
      | none => rfl
      | some x => exact AVal.bel_mono (Nat.le_succ _) _ ((AVal.belL_iff _ _).1 hbel x (List.mem_of_getElem? ha))
  refine calls_of_wp hf hb (wp_mono (h hdead hbel _ _ w K hR) ?_)
  rintro e a' w' ⟨σ', K', hq, hR'⟩
  have key : (σ'.lev = lev ∧ aResW lev Q (resW P lev σ' fn.results.toList)) →
      a'.defers = [] ∧ ∃ v, (results fn a'.tmps).run P w' = .ok v w' ∧ ∃ v' r H' K', Ending.returned v = .returned v' ∧ Q r H' ∧ HRel ⟨S0, ownsIn K H, badOf S0 K H, K, w⟩ lev H' w' K' ∧ (∀ l t, lev ≤ l → H' l t = .dead) ∧ Rv (badOf S0 K' H') K' w' r v' ∧ r.bel lev = true := by
    rintro ⟨hlev, hres⟩
    refine ⟨hR'.defs, ?_⟩
    cases hr : resW P lev σ' fn.results.toList with
    | none => rw [hr] at hres; exact hres.elim
    | some p =>
    obtain ⟨ds, σ''⟩ := p
    rw [hr] at hres
    have hQ : Q (retW ds) (σ''.H.cut lev) := hres
    obtain ⟨F, B, vs', hrun, hp'⟩ := resW_ok hR' hr
    have hR2 := F.rel a' hR'
    obtain ⟨hd1, hd2⟩ := hR2.hr.drop (H' := σ''.H.cut lev) (fun l t => by
      unfold Hp.cut
      cases Nat.blt l lev
      · exact .inr rfl
      · exact .inl rfl)
    have hlev2 : σ''.lev = lev := F.lev.trans hlev
    rw [hlev2] at hd1
    have hrunA : (results fn a'.tmps).run P w' = .ok (if h : vs'.length = 1 then vs'[0] else .tuple ⟨vs'⟩) w' := by
      have e : results fn a'.tmps = (do
        let vs ← fn.results.mapM (resOne a'.tmps)
        pure (if h : vs.size = 1 then vs[0] else .tuple vs)) := rfl
      rw [e, Array.mapM_eq_mapM_toList]
      simp [hrun]
    have hmn : ∀ {x : AVal} {u : Value}, Rv (badOf S0 K' σ''.H) K' w' x u → Rv (badOf S0 K' (σ''.H.cut lev)) K' w' x u := fun hx => hx.mono hd2 (fun _ _ _ _ hz => hz)
    refine ⟨_, hrunA, _, retW ds, _, K', rfl, hQ, hd1, fun l t hl => ?_, ?_, ?_⟩
    · have : Nat.blt l lev = false := by
        cases hh : Nat.blt l lev
        · rfl
        · rw [Nat.blt_eq] at hh; omega
      simp [Hp.cut, this]
    · match ds, vs', hp' with
      | [], [], _ =>
        exact .tup (xs := []) (vs := []) rfl (by simp)
      | [d], [u], hp' =>
        simp only [List.length_singleton, dif_pos, retW]
        exact hmn (hp'.2 0 d u rfl rfl)
      | d1 :: d2 :: r, u1 :: u2 :: r2, hp' =>
        rw [dif_neg (by simp)]
        simp only [retW]
        exact .tup (by simpa using hp'.1) (fun j c x hc hx => hmn (hp'.2 j c x hc hx))
      | [], _ :: _, hp' => have := hp'.1; simp at this
      | [_], [], hp' => have := hp'.1; simp at this
      | [_], _ :: _ :: _, hp' => have := hp'.1; simp at this
      | _ :: _ :: _, [], hp' => have := hp'.1; simp at this
      | _ :: _ :: _, [_], hp' => have := hp'.1; simp at this
    · match ds, B with
      | [], _ => rfl
      | [d], B => simpa [AVal.belL, retW] using B
      | d1 :: d2 :: r, B => exact B
  cases e with
  | normal => exact key hq
  | ret => exact key hq
  | _ => exact hq.elim
section
variable (P : Program) (lev : Nat) (σ : St) (H : Hp)
@[go_sem] theorem EndsW_ret (fn : Func) (Q : AVal → Hp → Prop) : EndsW P fn lev Q .ret σ = (σ.lev = lev ∧ aResW lev Q (resW P lev σ fn.results.toList)) := rfl
@[go_sem] theorem EndsW_normal (fn : Func) (Q : AVal → Hp → Prop) : EndsW P fn lev Q .normal σ = (σ.lev = lev ∧ aResW lev Q (resW P lev σ fn.results.toList)) := rfl
@[go_sem] theorem aResW_some (Q : AVal → Hp → Prop) (p : List AVal × St) : aResW lev Q (some p) = Q (retW p.1) (p.2.H.cut lev) := rfl
@[go_sem] theorem retW_1 (x : AVal) : retW [x] = x := rfl
@[go_sem] theorem retW_0 : retW [] = .tup [] := rfl
@[go_sem] theorem retW_2 (x y : AVal) (r : List AVal) : retW (x :: y :: r) = .tup (x :: y :: r) := rfl
@[go_sem] theorem resW_nil : resW P lev σ [] = some ([], σ) := by simp only [resW]
@[go_sem] theorem resW_tmp (t : Nat) (r : List ResultVar) : resW P lev σ (.tmp t :: r) = (frzR lev σ (lk σ.T t)).bind fun p => (resW P lev p.2 r).map fun q => (p.1 :: q.1, q.2) := by simp only [resW]
@[go_sem] theorem frzR_d (x : DVal) : frzR lev σ (.d x) = some (.d x, σ) := rfl
@[go_sem] theorem frzR_nils : frzR lev σ .nils = some (.nils, σ) := rfl
def frzRr (lev : Nat) (σ : St) (l t n : Nat) (b : Bool) : Option (AVal × St) := bif b then some (.ref l t n, σ) else (frzV σ (.ref l t n)).map fun p => (.d p.1, p.2)
@[go_sem] theorem frzR_ref (l t n : Nat) : frzR lev σ (.ref l t n) = frzRr lev σ l t n (decide (l < lev)) := by
  have e : Nat.blt l lev = decide (l < lev) := by
    rw [Bool.eq_iff_iff, Nat.blt_eq, decide_eq_true_eq]
  simp only [frzR, AVal.bel, e, frzRr]
@[go_sem] theorem frzRr_true (l t n : Nat) : frzRr lev σ l t n true = some (.ref l t n, σ) := rfl
@[go_sem] theorem frzRr_false (l t n : Nat) : frzRr lev σ l t n false = (frzV σ (.ref l t n)).map fun p => (.d p.1, p.2) := rfl
theorem cut_eq {H' : Hp} (hd : ∀ l t, lev ≤ l → H l t = .dead) (h : ∀ l t, l < lev → H' l t = H l t) : H'.cut lev = H := by
  funext l t
  unfold Hp.cut
  cases hb : Nat.blt l lev with
  | true => rw [cond_true]; exact h l t (by rwa [Nat.blt_eq] at hb)
  | false =>
    rw [cond_false]
    refine (hd l t ?_).symm
    rcases Nat.lt_or_ge l lev with h' | h'
    · rw [← Nat.blt_eq, hb] at h'; cases h'
    · exact h'
theorem cut_dead (hd : ∀ l t, lev ≤ l → H l t = .dead) : H.cut lev = H := cut_eq lev H hd fun _ _ _ => rfl
theorem hpL_dead (hd : ∀ l t, lev ≤ l → H l t = .dead) : hpL lev [] H = H := by
  funext l t
  unfold hpL
  cases hb : l == lev with
  | true => rw [cond_true, hd l t (by simp at hb; omega)]; rfl
  | false => rfl
@[go_sem] theorem cut_alloc (t : Nat) (o : AObj) : (H.alloc lev t o).cut lev = H.cut lev := by
  funext l t'
  unfold Hp.cut Hp.alloc
  cases hb : Nat.blt l lev with
  | true =>
    rw [Nat.blt_eq] at hb
    have : (l == lev) = false := by simp; omega
    rw [this]; rfl
  | false => rfl
@[go_sem] theorem cut_set (t : Nat) (o : AObj) : (H.set lev t o).cut lev = H.cut lev := by
  funext l t'
  unfold Hp.cut Hp.set
  cases hb : Nat.blt l lev with
  | true =>
    rw [Nat.blt_eq] at hb
    have : (l == lev) = false := by simp; omega
    rw [this]; rfl
  | false => rfl
@[go_sem] theorem cut_hpL (os : List (Nat × AObj)) : (hpL lev os H).cut lev = H.cut lev := by
  funext l t'
  unfold Hp.cut hpL
  cases hb : Nat.blt l lev with
  | true =>
    rw [Nat.blt_eq] at hb
    have : (l == lev) = false := by simp; omega
    rw [this]; rfl
  | false => rfl
def fRf (σ : St) (sz : Nat) (xs : List DVal) : AVal → Prop
  | .ref l k n => l = 0 ∧ n = xs.length ∧ σ.H l k = .arr sz xs
  | _ => False
theorem fRes_eq (sz : Nat) (xs : List DVal) (t : Nat) : fRes σ sz xs [.tmp t] = fRf σ sz xs (lk σ.T t) := by
  unfold fRes fRf
  apply propext
  constructor
  · rintro ⟨k, h1, h2⟩
    rw [h1]
    exact ⟨rfl, rfl, h2⟩
  · intro h
    split at h
    · rename_i l k n hl
      obtain ⟨rfl, rfl, h3⟩ := h
      exact ⟨k, hl, h3⟩
    · exact h.elim
@[go_sem] theorem fRes_tmp (sz : Nat) (xs : List DVal) (t : Nat) : fRes σ sz xs [.tmp t] = fRf σ sz xs (lk σ.T t) := fRes_eq σ sz xs t
@[go_sem] theorem fRf_ref (sz : Nat) (xs : List DVal) (l k n : Nat) : fRf σ sz xs (.ref l k n) = (l = 0 ∧ n = xs.length ∧ σ.H l k = .arr sz xs) := rfl
@[go_sem] theorem FEnds_ret (fn : Func) (sz : Nat) (xs : List DVal) : FEnds fn sz xs .ret σ = (σ.lev = 0 ∧ fRes σ sz xs fn.results.toList) := rfl
@[go_sem] theorem FEnds_normal (fn : Func) (sz : Nat) (xs : List DVal) : FEnds fn sz xs .normal σ = (σ.lev = 0 ∧ fRes σ sz xs fn.results.toList) := rfl
theorem dead_alloc {m : Nat} {l0 t : Nat} {o : AObj} (hl : l0 < m) (hd : ∀ l t, m ≤ l → H l t = .dead) : ∀ l t', m ≤ l → (H.alloc l0 t o) l t' = .dead := fun l t' h => by
  have : (l == l0) = false := by simp; omega
  simp [Hp.alloc, this, hd l t' h]
end
end Go.Fw
