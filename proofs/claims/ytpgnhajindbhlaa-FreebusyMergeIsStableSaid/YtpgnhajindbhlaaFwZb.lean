/- A nil cell of a box of one's own: from here on an empty array of one's own, at a slot that nothing else uses. -/
import Derived.Test.YtpgnhajindbhlaaFwZa
set_option autoImplicit false
namespace Go.Fw
variable {P : Program} {Q : Exit → St → Prop} {σ : St}
theorem Rel.spare {E : Env} {a : Act} {w : World} {K : Kt} (h : Rel E σ a w K) (s sz : Nat) :
    ∃ K', Rel E { σ with T := purgeT σ.lev s σ.T, H := σ.H.alloc σ.lev s (.arr sz []) } a w K' ∧ K' σ.lev s 0 = some (none, 0, sz) := by
  let z : Option Addr × Nat × Nat := (none, 0, sz)
  have hK' : ∀ l' t', ¬ (l' = σ.lev ∧ t' = s) → overK K σ.lev s 0 z l' t' = K l' t' := fun l' t' hn => overK_ne l' t' hn
  have hat : overK K σ.lev s 0 z σ.lev s 0 = some z := by rw [overK_at, if_pos rfl]
  have hown : ∀ b, (AObj.arr sz []).own (overK K σ.lev s 0 z) σ.lev s b → w.heap.size ≤ b := fun b hb' => by
    obtain ⟨o, z', hz⟩ := hb'
    rw [List.length_nil, hat] at hz
    simp [z] at hz
  have hkp := Keeps.alloc (o' := .arr sz []) h.hr (Ch.refl _ w) hK' hown
  refine ⟨overK K σ.lev s 0 z, ⟨h.size, h.defs, fun t => ?_, fun t => ?_, h.hr.alloc (Ch.refl _ w) hK' hown ?_ rfl⟩, hat⟩
  · simp only [lk_purgeT]
    exact (h.tm t).purge hkp (fun l t n z hn hz => by rw [hK' l t hn]; exact hz)
  · simp only [lk_purgeT]
    exact AVal.bel_purge _ (h.tb t)
  · exact ⟨fun n hn => by rw [overK_at, if_neg (by simpa using Nat.pos_iff_ne_zero.1 hn)], none, 0, hat, by simp, by simp, rfl, rfl⟩
theorem awp_newAt {c : Code} (n s t j sz : Nat) {cs : List AVal} (_ : headId c = some n) (hst : ¬ t = s) (hB : σ.H σ.lev t = .box cs) (hj : cs[j]? = some .nils)
    (h : awp P c Q { σ with T := purgeT σ.lev s σ.T, H := (σ.H.alloc σ.lev s (.arr sz [])).set σ.lev t (.box ((AVal.purgeL σ.lev s cs).set j (.ref σ.lev s 0))) }) : awp P c Q σ := by
  intro E a w K hR
  obtain ⟨K1, hR1, hK1⟩ := hR.spare s sz
  have hB1 : (σ.H.alloc σ.lev s (.arr sz [])) σ.lev t = .box (AVal.purgeL σ.lev s cs) := by
    rw [hR.hr.alloc_at σ.lev t (fun c => hst c.2), hB]
    rfl
  have hob1 := hR1.hr.ob σ.lev t
  rw [show ({ σ with T := purgeT σ.lev s σ.T, H := σ.H.alloc σ.lev s (.arr sz []) } : St).H = σ.H.alloc σ.lev s (.arr sz []) from rfl, hB1] at hob1
  obtain ⟨hn, b, vs, ty, z, h1, h2, h3, h4, h5⟩ := hob1
  have hown : ∀ b', (AObj.box ((AVal.purgeL σ.lev s cs).set j (.ref σ.lev s 0))).own K1 σ.lev t b' → ((σ.H.alloc σ.lev s (.arr sz [])) σ.lev t).own K1 σ.lev t b' ∨ w.heap.size ≤ b' := fun b' hb => .inl (by rw [hB1]; exact hb)
  have hkp := Keeps.write (o' := .box ((AVal.purgeL σ.lev s cs).set j (.ref σ.lev s 0))) hR1.hr (Ch.refl _ w) (fun _ _ _ => rfl) hown
  have hpj : (AVal.purgeL σ.lev s cs)[j]? = some .nils := by
    rw [AVal.purgeL_eq, List.getElem?_map, hj]
    simp [AVal.purge]
  have hr' : HRel E σ.lev ((σ.H.alloc σ.lev s (.arr sz [])).set σ.lev t (.box ((AVal.purgeL σ.lev s cs).set j (.ref σ.lev s 0)))) w K1 := by
    refine hR1.hr.write (Ch.refl _ w) (fun _ _ _ _ hz => hz) (fun _ _ _ => rfl) hown ⟨hn, b, vs, ty, z, h1, h2, by simpa using h3, h4, fun i c' x' hc hx => ?_⟩ ?_ (Nat.le_refl _)
    · rw [List.getElem?_set] at hc
      by_cases e : j = i
      · subst e
        rw [if_pos rfl] at hc
        split at hc
        · simp only [Option.some.injEq] at hc
          subst hc
          have := h5 j _ x' hpj hx
          cases this with
          | nils => exact .ref hK1
        · cases hc
      · rw [if_neg e] at hc
        exact (h5 i c' x' hc hx).mono hkp (fun _ _ _ _ hz => hz)
    · have hbl := hR1.hr.hb σ.lev t
      rw [show ({ σ with T := purgeT σ.lev s σ.T, H := σ.H.alloc σ.lev s (.arr sz []) } : St).H = σ.H.alloc σ.lev s (.arr sz []) from rfl, hB1] at hbl
      simp only [AObj.bel] at hbl ⊢
      rw [AVal.belL_iff] at hbl ⊢
      intro x hx
      rcases List.mem_or_eq_of_mem_set hx with hx | rfl
      · exact hbl x hx
      · simp [AVal.bel, Nat.blt_eq]
  exact h E a w K1 ⟨hR1.size, hR1.defs, fun t' => (hR1.tm t').mono hkp (fun _ _ _ _ hz => hz), hR1.tb, hr'⟩
/-- One's own array in a temporary: from here on data. -/
theorem awp_frzT {c : Code} (n t : Nat) {x : AVal} {y : DVal} {σ1 : St} (_ : headId c = some n) (hx : lk σ.T t = x) (_ : ∃ l s k, x = .ref l s k) (hf : frzV σ x = some (y, σ1))
    (h : awp P c Q { σ1 with T := setT σ1.T t (.d y) }) : awp P c Q σ := by
  intro E a w K hR
  obtain ⟨F, G⟩ := frzV_ok hR hf
  have hR1 := F.rel a hR
  refine h E a w K ⟨hR1.size, hR1.defs, fun t' => ?_, fun t' => ?_, hR1.hr⟩
  · simp only [lk_setT]
    by_cases e : t = t'
    · subst e
      rw [if_pos rfl]
      refine .d (G _ ?_)
      rw [← hx]
      exact hR.tm t
    · rw [if_neg e]
      exact hR1.tm t'
  · simp only [lk_setT]
    by_cases e : t = t'
    · rw [if_pos e]; rfl
    · rw [if_neg e]; exact hR1.tb t'
end Go.Fw
