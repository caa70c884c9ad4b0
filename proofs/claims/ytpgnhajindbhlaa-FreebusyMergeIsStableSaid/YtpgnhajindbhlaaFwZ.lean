/- Ways brought together again; loops told by what changes. -/
import Derived.Test.YtpgnhajindbhlaaFwY
set_option autoImplicit false
namespace Go.Fw
def headId : Code → Option Nat
  | .seq x _ => headId x
  | .region id _ _ => some id
  | .block _ c => headId c
  | _ => none
section
variable {P : Program} {Q : Exit → St → Prop} {σ : St}
/-- A cell of a box: from one's own array to data. -/
theorem awp_frzAt {c : Code} (n t j : Nat) {cs : List AVal} {x : AVal} {y : DVal} {σ1 : St} (_ : headId c = some n) (hB : σ.H σ.lev t = .box cs) (hj : cs[j]? = some x) (_ : ∃ l s k, x = .ref l s k) (hf : frzV σ x = some (y, σ1)) (hB1 : σ1.H σ.lev t = .box cs)
    (h : awp P c Q { σ1 with H := σ1.H.set σ.lev t (.box (cs.set j (.d y))) }) : awp P c Q σ := by
  intro E a w K hR
  obtain ⟨F, G⟩ := frzV_ok hR hf
  have hR1 := F.rel a hR
  have hlev := F.lev
  have hob := hR.hr.ob σ.lev t
  rw [hB] at hob
  obtain ⟨hn, b, vs, ty, z, h1, h2, h3, h4, h5⟩ := hob
  have hob1 := hR1.hr.ob σ.lev t
  rw [hB1] at hob1
  obtain ⟨_, b1, vs1, ty1, z1, h11, h21, _, _, h51⟩ := hob1
  rw [h1] at h11
  simp only [Option.some.injEq, Prod.mk.injEq, Addr.mk.injEq] at h11
  obtain ⟨⟨rfl, _⟩, _⟩ := h11
  rw [h2] at h21
  simp only [Option.some.injEq, Obj.cells.injEq, Array.mk.injEq] at h21
  obtain ⟨rfl, _⟩ := h21
  have hown : ∀ b', (AObj.box (cs.set j (.d y))).own K σ.lev t b' → (σ1.H σ.lev t).own K σ.lev t b' ∨ w.heap.size ≤ b' := fun b' hb => .inl (by rw [hB1]; exact hb)
  have hkp := Keeps.write (o' := .box (cs.set j (.d y))) hR1.hr (Ch.refl _ w) (fun _ _ _ => rfl) hown
  have hr' : HRel E σ1.lev (σ1.H.set σ.lev t (.box (cs.set j (.d y)))) w K := by
    refine hR1.hr.write (Ch.refl _ w) (fun _ _ _ _ hz => hz) (fun _ _ _ => rfl) hown ⟨hn, b, vs, ty, z, h1, h2, by simpa using h3, h4, fun i c' x' hc hx => ?_⟩ ?_ (by omega)
    · rw [List.getElem?_set] at hc
      by_cases e : j = i
      · subst e
        rw [if_pos rfl] at hc
        split at hc
        · simp only [Option.some.injEq] at hc
          subst hc
          exact .d ((G _ (h5 j x x' hj hx)).mono hkp)
        · cases hc
      · rw [if_neg e] at hc
        exact (h51 i c' x' hc hx).mono hkp (fun _ _ _ _ hz => hz)
    · have hb := hR1.hr.hb σ.lev t
      rw [hB1] at hb
      simp only [AObj.bel] at hb ⊢
      rw [AVal.belL_iff] at hb ⊢
      intro y' hy'
      rcases List.mem_or_eq_of_mem_set hy' with hy' | rfl
      · exact hb y' hy'
      · rfl
  exact h E a w K ⟨hR1.size, hR1.defs, fun t' => (hR1.tm t').mono hkp (fun _ _ _ _ hz => hz), hR1.tb, hr'⟩
theorem goN_at {y : Code} (n : Nat) (ts ls : List Nat) (N : Nx P y Q) (_ : headId y = some n) (h : awp P y Q (σ.keep ts ls)) : N.f σ := N.h σ (awp_keep ts ls h)
theorem awp_condT {c : Operand} {x y : Code} {b : Bool} (hc : boolOf (evO σ c) = some b) (hb : b = true) (h : awp P x Q σ) : awp P (.cond c x y) Q σ := awp_cond hc (fun _ => h) (fun e => by rw [hb] at e; cases e)
theorem awp_condF {c : Operand} {x y : Code} {b : Bool} (hc : boolOf (evO σ c) = some b) (hb : b = false) (h : awp P y Q σ) : awp P (.cond c x y) Q σ := awp_cond hc (fun e => by rw [hb] at e; cases e) (fun _ => h)
def Mrg (a b : St) (R : Prop) : Prop := a = b ∧ R
@[congr] theorem Mrg_congr {a a' b : St} {R : Prop} (h : a = a') : Mrg a b R = Mrg a' b R := by rw [h]
theorem mrg {a : St} {R : Prop} (h : R) : Mrg a a R := ⟨rfl, h⟩
def Fct (R G : Prop) : Prop := R → G
theorem fct {R G : Prop} (h : R → G) : Fct R G := h
theorem awp_seq_at {x y : Code} (n : Nat) (ts ls : List Nat) (R : Prop) {I : St} (_ : headId y = some n) (h : awp P x (AThen (fun σ' => Mrg (σ'.keep ts ls) I R) Q) σ) (k : Fct R (awp P y Q I)) : awp P (.seq x y) Q σ :=
  awp_seq (awp_mono h fun e σ' hq => by
    cases e with
    | normal => exact awp_keep ts ls (by rw [show σ'.keep ts ls = I from hq.1]; exact k hq.2)
    | _ => exact hq)
theorem St.same (σ : St) : σ = σ := rfl
def updT : List (Nat × AVal) → List (Nat × AVal) → List (Nat × AVal)
  | T, [] => T
  | T, (t, v) :: r => updT (setT T t v) r
def updH (lev : Nat) : Hp → List (Nat × AObj) → Hp
  | H, [] => H
  | H, (t, o) :: r => updH lev (H.set lev t o) r
def St.upd (σ : St) (U : List (Nat × AVal)) (V : List (Nat × AObj)) : St := { σ with T := updT σ.T U, H := updH σ.lev σ.H V }
def setO : List (Nat × AObj) → Nat → AObj → List (Nat × AObj)
  | [], t, o => [(t, o)]
  | (s, p) :: r, t, o => bif s == t then (t, o) :: r else (s, p) :: setO r t o
theorem ne_beq {a b : Nat} (h : ¬ a = b) : (a == b) = false := by simpa using h
theorem lkO_cons (s : Nat) (p : AObj) (r : List (Nat × AObj)) (k : Nat) : lkO ((s, p) :: r) k = bif s == k then p else lkO r k := by
  simp [lkO]
theorem lkO_setO : ∀ (os : List (Nat × AObj)) (t : Nat) (o : AObj) (k : Nat), lkO (setO os t o) k = bif k == t then o else lkO os k
  | [], t, o, k => by
    simp only [setO, lkO_cons]
    by_cases h : k = t
    · subst h; simp
    · rw [ne_beq h, ne_beq (fun e => h e.symm)]
  | (s, p) :: r, t, o, k => by
    have ih := lkO_setO r t o k
    simp only [setO]
    by_cases h : s = t
    · subst h
      simp only [BEq.rfl, cond_true, lkO_cons]
      by_cases h2 : k = s
      · subst h2; simp
      · rw [ne_beq h2, ne_beq (fun e => h2 e.symm)]; rfl
    · rw [ne_beq h, cond_false, lkO_cons, lkO_cons, ih]
      by_cases h2 : s = k
      · subst h2
        rw [ne_beq h]; simp
      · rw [ne_beq h2]; rfl
theorem set_hpL (lev : Nat) (os : List (Nat × AObj)) (H : Hp) (t : Nat) (o : AObj) : (hpL lev os H).set lev t o = hpL lev (setO os t o) H := by
  funext l k
  unfold Hp.set hpL
  cases h : l == lev with
  | true =>
    simp only [Bool.true_and, cond_true]
    rw [lkO_setO]
  | false => simp
@[go_sem] theorem updT_nil (T : List (Nat × AVal)) : updT T [] = T := rfl
@[go_sem] theorem updT_cons (T : List (Nat × AVal)) (t : Nat) (v : AVal) (r : List (Nat × AVal)) : updT T ((t, v) :: r) = updT (setT T t v) r := rfl
@[go_sem] theorem updH_nil (lev : Nat) (H : Hp) : updH lev H [] = H := rfl
@[go_sem] theorem updH_cons (lev : Nat) (os : List (Nat × AObj)) (H : Hp) (t : Nat) (o : AObj) (r : List (Nat × AObj)) : updH lev (hpL lev os H) ((t, o) :: r) = updH lev (hpL lev (setO os t o) H) r := by rw [updH, set_hpL]
@[go_sem] theorem setO_nil (t : Nat) (o : AObj) : setO [] t o = [(t, o)] := rfl
@[go_sem] theorem setO_cons (s : Nat) (p : AObj) (r : List (Nat × AObj)) (t : Nat) (o : AObj) : setO ((s, p) :: r) t o = bif s == t then (t, o) :: r else (s, p) :: setO r t o := rfl
@[go_sem] theorem upd_mk (n lev : Nat) (T : List (Nat × AVal)) (H : Hp) (U : List (Nat × AVal)) (V : List (Nat × AObj)) : St.upd ⟨n, lev, T, H⟩ U V = ⟨n, lev, updT T U, updH lev H V⟩ := rfl
theorem awp_loopU {c : Code} {ι : Type} (ts ls : List Nat) {σ0 : St} (U : ι → List (Nat × AVal)) (V : ι → List (Nat × AObj)) (G : ι → Prop) (μ : ι → Nat) (i0 : ι) (h0 : σ.keep ts ls = σ0) (hU : σ0 = σ0.upd (U i0) (V i0)) (hG : G i0)
    (round : ∀ i, G i → awp P c (AThen (fun σ' => ∃ j, G j ∧ σ'.keep ts ls = σ0.upd (U j) (V j) ∧ μ j < μ i) Q) (σ0.upd (U i) (V i))) : awp P (.loop c) Q σ :=
  awp_loopF ts ls (fun i => σ0.upd (U i) (V i)) G μ i0 hG (h0.trans hU) round
end
end Go.Fw
