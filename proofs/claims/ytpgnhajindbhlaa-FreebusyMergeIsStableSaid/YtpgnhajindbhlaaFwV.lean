/- One order stands for all: the rule. -/
import Derived.Test.YtpgnhajindbhlaaFwU
set_option autoImplicit false
namespace Go.Fw
section
variable {P : Program} {ops : Array Oper} {ms : List Nat} {N : St → Prop}
theorem Agr.refl (c : Cl) (ls : List Tmp) (σ : St) : Agr c ls σ σ := ⟨rfl, rfl, fun _ _ => rfl, fun _ _ _ _ => rfl⟩
theorem ready_lt {i : Nat} {listed : Array Bool} (h : i ∈ Region.ready .any ops listed) : i < ops.size := by
  obtain ⟨_, o, ho, _⟩ := mem_ready.1 h
  exact (Array.getElem?_eq_some_iff.1 ho).1
theorem rec_mem {O : OrdF} {i j l t l' t' : Nat} {w w' : Bool} {rs : List Rec} (h : OkR O j (some (.mem l' t' w')) (addR i (some (.mem l t w)) rs)) (hno : O j i = false) (hw : w = true ∨ w' = true) : ¬ (l = l' ∧ t = t') := by
  have := recB_iff.1 h (i, l, t, w) (List.mem_cons_self)
  rintro ⟨rfl, rfl⟩
  rcases this with h | h | ⟨h1, h2⟩
  · rw [hno] at h; cases h
  · exact h ⟨rfl, rfl⟩
  · simp only at h2
    rcases hw with hw | hw
    · rw [h2] at hw; cases hw
    · rw [h1] at hw; cases hw
theorem dAny_first (hS : Stat ops ms) {i : Nat} {oi : Oper} (hi : ops[i]? = some oi) : ∀ (f : Nat) (listed : Array Bool) (rs : List Rec) (σ : St) (c : Cl) (e : Eff), closed ops listed → FreeU ops listed σ → i ∈ Region.ready .any ops listed →
    Step P ops oi σ c e → OkR (ordB ms) i (some c) rs → dAny P ops ms N f (listed.setIfInBounds i true) (addR i (some c) rs) (e.app σ oi.dst) → dAny P ops ms N (f + 1) listed rs σ := by
  intro f
  induction f with
  | zero =>
    intro listed rs σ c e hc hF hr hSi hOk H
    refine ⟨fun h => (by rw [h] at hr; cases hr), fun j hj oj hoj => ?_⟩
    by_cases hji : j = i
    · subst hji
      rw [hi] at hoj
      cases hoj
      exact ⟨σ, .refl σ, hSi.go σ _ _ (.refl ..) ⟨hOk, H⟩⟩
    · have := ready_mono hj hji
      rw [H.1] at this
      cases this
  | succ f ih =>
    intro listed rs σ c e hc hF hr hSi hOk H
    refine ⟨fun h => (by rw [h] at hr; cases hr), fun j hj oj hoj => ?_⟩
    by_cases hji : j = i
    · subst hji
      rw [hi] at hoj
      cases hoj
      exact ⟨σ, .refl σ, hSi.go σ _ _ (.refl ..) ⟨hOk, H⟩⟩
    · have hli := (mem_ready.1 hr).1
      have hlj := (mem_ready.1 hj).1
      have hno : ordB ms i j = false := not_ord hS hc hr hj
      have hno' : ordB ms j i = false := by rw [ordB_comm]; exact hno
      obtain ⟨τ, hτ, hD⟩ := H.2 j (ready_mono hj hji) oj hoj
      rcases DOp_step hD with hA | ⟨cj, ej, hSj, hOkj, hKj⟩
      · exact absurd (alone_not hA (ready_lt hr) (Ne.symm hji)) (by rw [hno']; simp)
      · obtain ⟨ap1, ap2, ap3⟩ := Oper.apart_spec (hS.apart i j oi oj hi hoj (Ne.symm hji) hno)
        have h0i : Fr0 σ c oi.dst := hSi.fr0 hi hli hF
        have hSj' : Step P ops oj (e.app σ oi.dst) cj ej := hSj.move (.eqv hτ)
        have hlk : ∀ t ∈ oj.looksAt ops, lk (e.app σ oi.dst).T t = lk σ.T t := fun t ht => by
          rw [app_lk hSi.fits h0i, if_neg (fun e => ap1 t e ht)]
        have hA1 : Agr cj (oj.looksAt ops) σ (e.app σ oi.dst) := hSi.agr h0i ap1
          (fun l t w l' t' hcj hci => by subst hcj hci; exact fun ⟨a, b⟩ => rec_mem hOkj hno' (.inl rfl) ⟨a.symm, b.symm⟩)
          (fun l t w d hcj hci hd => by
            have hFd := h0i hci d hd
            exact hSj'.slot σ.lev d (fun k hk => by rw [hlk k hk]; exact hFd.1 k) l t w hcj)
        have hSj0 : Step P ops oj σ cj ej := hSj'.move hA1.symm
        have h0j : Fr0 σ cj oj.dst := hSj0.fr0 hoj hlj hF
        have hA2 : Agr c (oi.looksAt ops) σ (ej.app σ oj.dst) := hSj0.agr h0j ap3
          (fun l t w l' t' hci hcj => by subst hcj hci; exact rec_mem hOkj hno' (.inr rfl))
          (fun l t w d hci hcj hd => hSi.slot σ.lev d (fun k _ => (h0j hcj d hd).1 k) l t w hci)
        refine ⟨σ, .refl σ, hSj0.go σ _ _ (.refl ..) ⟨hOkj.sub addR_keep, ?_⟩⟩
        have hF1 : FreeU ops (listed.setIfInBounds j true) (ej.app σ oj.dst) := hF.step hS hSj0 hoj hlj
        have hF2 : FreeU ops (listed.setIfInBounds i true) (e.app σ oi.dst) := hF.step hS hSi hi hli
        have hli1 : (listed.setIfInBounds j true).getD i true = false := by rw [getD_set_ne true hji]; exact hli
        have hlj1 : (listed.setIfInBounds i true).getD j true = false := by rw [getD_set_ne true (Ne.symm hji)]; exact hlj
        have hSi1 : Step P ops oi (ej.app σ oj.dst) c e := hSi.move hA2
        refine ih (listed.setIfInBounds j true) (addR j (some cj) rs) (ej.app σ oj.dst) c e (hc.add hj) hF1 (ready_mono hr (Ne.symm hji)) hSi1 ?_ ?_
        · cases c with
          | mem l t w =>
            refine recB_iff.2 fun r hr' => ?_
            cases cj with
            | mem l' t' w' =>
              rcases List.mem_cons.1 hr' with rfl | hr'
              · by_cases hq : w = true ∨ w' = true
                · exact .inr (.inl (rec_mem hOkj hno' hq))
                · refine .inr (.inr ⟨?_, ?_⟩)
                  · cases w
                    · rfl
                    · exact absurd (.inl rfl) hq
                  · simp only
                    cases w'
                    · rfl
                    · exact absurd (.inr rfl) hq
              · exact recB_iff.1 hOk r hr'
            | _ => exact recB_iff.1 hOk r hr'
          | _ => trivial
        · have E1 : Eqv (ej.app τ oj.dst) (ej.app (e.app σ oi.dst) oj.dst) := app_eqv hSj.fits ((hSj.fr0 hoj hlj1 (hF2.eqv hτ.symm))) hτ
          have E2 : Eqv (ej.app (e.app σ oi.dst) oj.dst) (e.app (ej.app σ oj.dst) oi.dst) := by
            refine app_comm hSi.fits h0i hSj0.fits h0j (hSi1.fr0 hi hli1 hF1) (hSj'.fr0 hoj hlj1 hF2) ap2 (fun u u' hu hu' => ?_)
            rcases up_slot hSi.fits hu with a | ⟨a, a1, a2⟩
            · rcases up_slot hSj0.fits hu' with b | ⟨b, b1, b2⟩
              · subst a b; exact rec_mem hOkj hno' (.inl rfl)
              · rw [b1]
                exact hSi.slot σ.lev _ (fun k _ => (h0j b _ b2).1 k) _ _ _ a
            · rcases up_slot hSj0.fits hu' with b | ⟨b, b1, b2⟩
              · rw [a1]
                have := hSj0.slot σ.lev _ (fun k _ => (h0i a _ a2).1 k) _ _ _ b
                exact fun ⟨q1, q2⟩ => this ⟨q1.symm, q2.symm⟩
              · rintro ⟨_, q2⟩
                rw [q2] at a2
                exact ap2 _ a2 b2
          have := dAny_eqv (E1.trans E2) hKj
          rw [Array.setIfInBounds_comm _ _ hji]
          refine dAny_sub (fun r hr' => ?_) this
          cases c with
          | mem l t w =>
            cases cj with
            | mem l' t' w' =>
              rcases List.mem_cons.1 hr' with h | hr'
              · exact List.mem_cons_of_mem _ (List.mem_cons.2 (.inl h))
              · rcases List.mem_cons.1 hr' with h | hr'
                · exact List.mem_cons.2 (.inl h)
                · exact List.mem_cons_of_mem _ (List.mem_cons_of_mem _ hr')
            | _ => exact hr'
          | _ => exact hr'

/-! ### The one order -/
def lexB (ops : Array Oper) : Nat → Nat → Array Bool → Bool
  | 0, _, listed => (Region.ready .any ops listed).isEmpty
  | f + 1, k, listed => (Region.ready .any ops listed).contains k && lexB ops f (k + 1) (listed.setIfInBounds k true)
noncomputable def dOpsL (P : Program) (ops : Array Oper) (O : OrdF) (Al : Nat → Bool) (N : St → Prop) : List Oper → Nat → List Rec → St → Prop
  | [], _, _, σ => N σ
  | o :: l, k, rs, σ => DOp P ops (Al k = true) (fun c σ' => OkR O k c rs ∧ dOpsL P ops O Al N l (k + 1) (addR k c rs) σ') o σ
theorem dAny_lex (hS : Stat ops ms) : ∀ (l : List Oper) (k : Nat) (listed : Array Bool) (rs : List Rec) (σ : St), (∀ j, l[j]? = ops[k + j]?) → (∀ j, j < k → listed.getD j true = true) → lexB ops l.length k listed = true → closed ops listed → FreeU ops listed σ →
    dOpsL P ops (ordB ms) (aloneB ops ms) N l k rs σ → dAny P ops ms N l.length listed rs σ
  | [], k, listed, rs, σ, _, _, hB, _, _, h => ⟨by simpa [lexB] using hB, σ, .refl σ, h⟩
  | o :: l, k, listed, rs, σ, hl, hlt, hB, hc, hF, h => by
    have h0 : ops[k]? = some o := by simpa using (hl 0).symm
    simp only [List.length_cons, lexB, Bool.and_eq_true] at hB
    obtain ⟨hr, hB'⟩ := hB
    have hr : k ∈ Region.ready .any ops listed := by simpa using hr
    have hlk := (mem_ready.1 hr).1
    have hl' : ∀ j, l[j]? = ops[k + 1 + j]? := fun j => by have := hl (j + 1); simpa [Nat.add_assoc, Nat.add_comm 1 j] using this
    have hsz : k < listed.size := by
      rcases Nat.lt_or_ge k listed.size with h | h
      · exact h
      · rw [Array.getD_eq_getD_getElem?, Array.getElem?_eq_none h] at hlk; cases hlk
    have hlt' : ∀ j, j < k + 1 → (listed.setIfInBounds k true).getD j true = true := fun j hj => by
      by_cases e : k = j
      · subst e
        simp [hsz]
      · rw [getD_set_ne true e]; exact hlt j (by omega)
    simp only [dOpsL] at h
    rcases DOp_step h with hA | ⟨c, e, hSt, hOk, hK⟩
    · refine ⟨fun h => (by rw [h] at hr; cases hr), fun i hi oi hoi => ?_⟩
      by_cases hik : i = k
      · subst hik
        rw [h0] at hoi
        cases hoi
        refine ⟨σ, .refl σ, h.mono fun c σ' ⟨h1, h2⟩ => ⟨h1, dAny_lex hS l (i + 1) _ _ σ' hl' hlt' hB' (hc.add hr) ?_ h2⟩⟩
        intro j oj d hj hlj hn _
        exfalso
        have hji : j ≠ i := fun e => by
          subst e
          rw [hlt' j (Nat.lt_succ_self _)] at hlj
          cases hlj
        have hji2 : ¬ j < i := fun e => by
          rw [hlt' j (by omega)] at hlj
          cases hlj
        unfold aloneB at hA
        rw [List.all_eq_true] at hA
        have := hA j (List.mem_range.2 (Array.getElem?_eq_some_iff.1 hj).1)
        simp only [Bool.or_eq_true, beq_iff_eq, Bool.and_eq_true, Nat.blt_eq, hj, Option.any_some, hn, Bool.not_true, or_false, Bool.false_eq_true] at this
        rcases this with h | h
        · exact hji h
        · exact hji2 h.2
      · have h1 := not_ord hS hc hr hi
        have h2 := alone_not hA (ready_lt hi) hik
        rw [h1] at h2
        cases h2
    · exact dAny_first hS h0 l.length listed rs σ c e hc hF hr hSt hOk (dAny_lex hS l (k + 1) _ _ _ hl' hlt' hB' (hc.add hr) (hF.step hS hSt h0 hlk) hK)
end

/-! ### What is checked of a region -/
def maskOf (ms : List Nat) (o : Oper) : Nat := o.after.toList.foldl (fun m e => bif Region.binds .any e then (m ||| (1 <<< e.on) ||| ms.getD e.on 0) else m) 0
def masks (ops : Array Oper) : List Nat := ops.toList.foldl (fun ms o => ms ++ [maskOf ms o]) []
def statB (ops : Array Oper) (ms : List Nat) : Bool :=
  ((List.range ops.size).all fun i => (ops[i]?).all fun o => Nat.beq (ms.getD i 0) (maskOf ms o) && o.after.toList.all fun e => !Region.binds .any e || Nat.blt e.on i) &&
  (List.range ops.size).all fun i => (List.range ops.size).all fun j => i == j || ((ops[i]?).all fun oi => (ops[j]?).all fun oj => (ordB ms i j || oi.apart ops oj) && (!newK oj.op || oj.dst.isNone || oi.dst != oj.dst))
def newIn (ops : Array Oper) (ds : List Nat) : Bool := ops.toList.all fun o => !newK o.op || (o.dst.all fun d => ds.contains d)
def drawB (ops : Array Oper) (ds : List Nat) : Bool := statB ops (masks ops) && newIn ops ds && lexB ops ops.size 0 (Array.replicate ops.size false)
theorem mask_bit (ms : List Nat) (i : Nat) : ∀ (es : List Edge) (m : Nat), (es.foldl (fun m e => bif Region.binds .any e then (m ||| (1 <<< e.on) ||| ms.getD e.on 0) else m) m).testBit i = true →
    m.testBit i = true ∨ ∃ e ∈ es, Region.binds .any e = true ∧ (e.on = i ∨ (ms.getD e.on 0).testBit i = true)
  | [], m, h => .inl h
  | e :: es, m, h => by
    rcases mask_bit ms i es _ h with h | ⟨x, hx, h⟩
    · simp only at h
      cases hb : Region.binds .any e with
      | false => rw [hb] at h; exact .inl h
      | true =>
        rw [hb] at h
        simp only [cond_true, Nat.testBit_or, Bool.or_eq_true, Nat.one_shiftLeft, Nat.testBit_two_pow, decide_eq_true_eq] at h
        rcases h with (h | h) | h
        · exact .inl h
        · exact .inr ⟨e, by simp, hb, .inl h⟩
        · exact .inr ⟨e, by simp, hb, .inr h⟩
    · exact .inr ⟨x, List.mem_cons_of_mem _ hx, h⟩
theorem stat_of {ops : Array Oper} {ms : List Nat} (h : statB ops ms = true) : Stat ops ms := by
  unfold statB at h
  simp only [Bool.and_eq_true, List.all_eq_true, List.mem_range] at h
  obtain ⟨h1, h2⟩ := h
  have g1 : ∀ i o, ops[i]? = some o → ms.getD i 0 = maskOf ms o ∧ ∀ e ∈ o.after.toList, Region.binds .any e = true → e.on < i := fun i o ho => by
    have := h1 i (Array.getElem?_eq_some_iff.1 ho).1
    rw [ho] at this
    simp only [Option.all_some, Bool.and_eq_true, List.all_eq_true] at this
    refine ⟨Nat.eq_of_beq_eq_true this.1, fun e he hb => ?_⟩
    have := this.2 e he
    rw [hb] at this
    simpa using this
  refine ⟨fun listed j => ?_, fun i j oi oj hi hj hne ho => ?_, fun i j oi oj d hi hj hne hn hd => ?_⟩
  · induction j using Nat.strongRecOn with
    | _ j ih =>
      intro oj i hc hj hall hb
      obtain ⟨e1, e2⟩ := g1 j oj hj
      rw [e1] at hb
      rcases mask_bit ms i _ _ hb with h | ⟨e, he, hbd, h⟩
      · simp at h
      · have hle := hall e (by simpa using he) hbd
        rcases h with h | h
        · rw [← h]; exact hle
        · have hlt := e2 e he hbd
          have hsz : e.on < ops.size := by have := (Array.getElem?_eq_some_iff.1 hj).1; omega
          exact ih e.on hlt _ i hc (Array.getElem?_eq_getElem hsz) (fun x hx hb => hc e.on _ (Array.getElem?_eq_getElem hsz) hle x hx hb) h
  · have := h2 i (Array.getElem?_eq_some_iff.1 hi).1 j (Array.getElem?_eq_some_iff.1 hj).1
    simp only [hi, hj, Option.all_some, Bool.or_eq_true, beq_iff_eq, hne, false_or, Bool.and_eq_true, ho, Bool.false_eq_true] at this
    exact this.1
  · have := h2 i (Array.getElem?_eq_some_iff.1 hi).1 j (Array.getElem?_eq_some_iff.1 hj).1
    simp only [hi, hj, Option.all_some, Bool.or_eq_true, beq_iff_eq, hne, false_or, Bool.and_eq_true, hn, hd, Bool.not_true, Bool.false_eq_true, Option.isNone_some, bne_iff_ne] at this
    exact this.2
def Hp.purge (H : Hp) (l0 t0 : Nat) : Hp := fun l t => (H l t).purge l0 t0
def St.purge1 (σ : St) (d : Nat) : St := { σ with T := purgeT σ.lev d σ.T, H := σ.H.purge σ.lev d }
def St.purges (σ : St) : List Nat → St
  | [] => σ
  | d :: r => (σ.purge1 d).purges r
mutual
theorem AVal.purge_comm (l t l' t' : Nat) : ∀ x : AVal, (x.purge l t).purge l' t' = (x.purge l' t').purge l t
  | .ptr a b c => by
    simp only [AVal.purge]
    cases h1 : (a == l && b == t) <;> cases h2 : (a == l' && b == t') <;> simp [AVal.purge, h1, h2]
  | .ref a b c => by
    simp only [AVal.purge]
    cases h1 : (a == l && b == t) <;> cases h2 : (a == l' && b == t') <;> simp [AVal.purge, h1, h2]
  | .elt a b c q r => by
    simp only [AVal.purge]
    cases h1 : (a == l && b == t) <;> cases h2 : (a == l' && b == t') <;> simp [AVal.purge, h1, h2]
  | .tup xs => by simp only [AVal.purge]; rw [AVal.purgeL_comm l t l' t' xs]
  | .clo f xs => by simp only [AVal.purge]; rw [AVal.purgeL_comm l t l' t' xs]
  | AVal.any => rfl
  | AVal.nils => rfl
  | AVal.d _ => rfl
  | AVal.cptr _ => rfl
theorem AVal.purgeL_comm (l t l' t' : Nat) : ∀ xs : List AVal, AVal.purgeL l' t' (AVal.purgeL l t xs) = AVal.purgeL l t (AVal.purgeL l' t' xs)
  | [] => rfl
  | x :: xs => by simp only [AVal.purgeL]; rw [AVal.purge_comm l t l' t' x, AVal.purgeL_comm l t l' t' xs]
end
mutual
theorem AVal.purge_idem (l t : Nat) : ∀ x : AVal, (x.purge l t).purge l t = x.purge l t
  | .ptr a b c => by simp only [AVal.purge]; cases h1 : (a == l && b == t) <;> simp [AVal.purge, h1]
  | .ref a b c => by simp only [AVal.purge]; cases h1 : (a == l && b == t) <;> simp [AVal.purge, h1]
  | .elt a b c q r => by simp only [AVal.purge]; cases h1 : (a == l && b == t) <;> simp [AVal.purge, h1]
  | .tup xs => by simp only [AVal.purge]; rw [AVal.purgeL_idem l t xs]
  | .clo f xs => by simp only [AVal.purge]; rw [AVal.purgeL_idem l t xs]
  | AVal.any => rfl
  | AVal.nils => rfl
  | AVal.d _ => rfl
  | AVal.cptr _ => rfl
theorem AVal.purgeL_idem (l t : Nat) : ∀ xs : List AVal, AVal.purgeL l t (AVal.purgeL l t xs) = AVal.purgeL l t xs
  | [] => rfl
  | x :: xs => by simp only [AVal.purgeL]; rw [AVal.purge_idem l t x, AVal.purgeL_idem l t xs]
end
theorem AObj.purge_comm (l t l' t' : Nat) (x : AObj) : (x.purge l t).purge l' t' = (x.purge l' t').purge l t := by cases x <;> simp only [AObj.purge]; rw [AVal.purgeL_comm]
theorem AObj.purge_idem (l t : Nat) (x : AObj) : (x.purge l t).purge l t = x.purge l t := by cases x <;> simp only [AObj.purge]; rw [AVal.purgeL_idem]
theorem Robj.purge0 {bad : Nat → Prop} {K : Kt} {w : World} {l t l0 t0 : Nat} {o : AObj} (h : Robj bad K w l t o) : Robj bad K w l t (o.purge l0 t0) := by
  cases o with
  | box cs =>
    obtain ⟨hn, b, vs, ty, z, h1, h2, h3, h4, h5⟩ := h
    refine ⟨hn, b, vs, ty, z, h1, h2, by rw [AVal.purgeL_eq]; simpa using h3, h4, fun j c x hc hx => ?_⟩
    rw [AVal.purgeL_eq, List.getElem?_map] at hc
    obtain ⟨c0, hc0, rfl⟩ := Option.map_eq_some_iff.1 hc
    exact (h5 j c0 x hc0 hx).purge Keeps.rfl' (fun _ _ _ _ _ hz => hz)
  | _ => exact h
theorem HRel.purge {E : Env} {lev : Nat} {H : Hp} {w : World} {K : Kt} (h : HRel E lev H w K) (l0 t0 : Nat) : HRel E lev (H.purge l0 t0) w K ∧ (∀ b, badOf E.S0 K (H.purge l0 t0) b ↔ badOf E.S0 K H b) := by
  have ho : ∀ l t b, ((H.purge l0 t0) l t).own K l t b ↔ (H l t).own K l t b := fun l t b => AObj.own_purge
  have hb : ∀ b, badOf E.S0 K (H.purge l0 t0) b ↔ badOf E.S0 K H b := fun b => or_congr Iff.rfl (exists_congr fun l => exists_congr fun t => ho l t b)
  have hk : Keeps (badOf E.S0 K H) w (badOf E.S0 K (H.purge l0 t0)) w := fun b _ hn => ⟨fun e => hn ((hb b).1 e), rfl⟩
  refine ⟨⟨fun l t => ?_, fun l t l' t' b h1 h2 => h.inj l t l' t' b ((ho ..).1 h1) ((ho ..).1 h2), fun l t b hb => h.sep l t b ((ho ..).1 hb), h.low, h.ext, fun l t b hb => h.new l t b ((ho ..).1 hb), fun l t hl => ?_, fun l t => ?_, h.kp.trans hk h.ext.size, h.k0⟩, hb⟩
  · exact ((h.ob l t).mono hk (fun _ _ _ _ hz => hz) rfl (fun _ _ => rfl)).purge0
  · show (H l t).purge l0 t0 = .dead
    rw [h.top l t hl]; rfl
  · exact AObj.bel_purge _ (h.hb l t)
theorem Rel.purge1 {E : Env} {σ : St} {a : Act} {w : World} {K : Kt} (h : Rel E σ a w K) (d : Nat) : Rel E (σ.purge1 d) a w K := by
  obtain ⟨h1, h2⟩ := h.hr.purge σ.lev d
  have hk : Keeps (badOf E.S0 K σ.H) w (badOf E.S0 K (σ.H.purge σ.lev d)) w := fun b _ hn => ⟨fun e => hn ((h2 b).1 e), rfl⟩
  refine ⟨h.size, h.defs, fun t => ?_, fun t => ?_, h1⟩
  · simp only [St.purge1, lk_purgeT]
    exact (h.tm t).purge hk (fun _ _ _ _ _ hz => hz)
  · simp only [St.purge1, lk_purgeT]
    exact AVal.bel_purge _ (h.tb t)
theorem Rel.purges {E : Env} {a : Act} {w : World} {K : Kt} : ∀ {ds : List Nat} {σ : St}, Rel E σ a w K → Rel E (σ.purges ds) a w K
  | [], _, h => h
  | d :: r, _, h => Rel.purges (ds := r) (h.purge1 d)
theorem purges_lev : ∀ (ds : List Nat) (σ : St), (σ.purges ds).lev = σ.lev
  | [], _ => rfl
  | d :: r, σ => purges_lev r (σ.purge1 d)
theorem Fre.purge1 {l t d : Nat} {σ : St} (h : Fre l t σ) : Fre l t (σ.purge1 d) := by
  refine ⟨fun j => ?_, fun l' t' => ?_⟩
  · simp only [St.purge1, lk_purgeT]
    rw [AVal.purge_comm, h.1]
  · show ((σ.H l' t').purge σ.lev d).purge l t = _
    rw [AObj.purge_comm, h.2]; rfl
theorem Fre.purges {l t : Nat} : ∀ {ds : List Nat} {σ : St}, Fre l t σ → Fre l t (σ.purges ds)
  | [], _, h => h
  | d :: r, _, h => Fre.purges (ds := r) h.purge1
theorem purges_fre {d : Nat} : ∀ {ds : List Nat} {σ : St}, d ∈ ds → Fre σ.lev d (σ.purges ds)
  | [], _, h => by cases h
  | x :: r, σ, h => by
    rcases List.mem_cons.1 h with rfl | h
    · refine Fre.purges (ds := r) ⟨fun j => ?_, fun l' t' => ?_⟩
      · simp only [St.purge1, lk_purgeT, AVal.purge_idem]
      · exact AObj.purge_idem _ _ _
    · exact purges_fre (ds := r) (σ := σ.purge1 x) h
/-- A region whose order is drawn: it is walked in one order. -/
theorem awp_draw {P : Program} {Q : Exit → St → Prop} {σ : St} {id : Nat} {ops : Array Oper} (ds : List Nat) (hm : P.follows .mixedOrders = true) (hB : drawB ops ds = true)
    (h : ∀ (O : OrdF) (Al : Nat → Bool), O = ordB (masks ops) → Al = aloneB ops (masks ops) → dOpsL P ops O Al (Q .normal) ops.toList 0 [] (σ.purges ds)) : awp P (.region id ops true) Q σ := by
  intro E a w K hR
  simp only [drawB, Bool.and_eq_true] at hB
  obtain ⟨⟨hs, hn⟩, hl⟩ := hB
  have hS := stat_of hs
  refine wp_region_any hm ?_
  have hR' : Rel E (σ.purges ds) a { w with drawn := w.drawn + 1 } K := by
    exact hR.purges.world (Ch.drew w)
  refine dAny_sound (P := P) (ms := masks ops) (N := Q .normal) (fun σ' a' w' K' h1 h2 => ⟨σ', K', h1, h2⟩) _ _ [] _ a _ K ?_ hR'
  have := dAny_lex (P := P) (N := Q .normal) hS ops.toList 0 (Array.replicate ops.size false) [] (σ.purges ds) (fun j => by simp) (fun j hj => by omega) (by simpa using hl) ?_ ?_ (h _ _ rfl rfl)
  · simpa using this
  · intro j oj hj hlj
    rw [Array.getD_eq_getD_getElem?, Array.getElem?_replicate] at hlj
    split at hlj <;> simp at hlj
  · intro j oj d hj _ hnk hd
    rw [purges_lev]
    refine purges_fre ?_
    unfold newIn at hn
    rw [List.all_eq_true] at hn
    have := hn oj (List.mem_of_getElem? (by rw [Array.getElem?_toList]; exact hj))
    rw [hnk, hd] at this
    simpa using this
end Go.Fw
