import Derived.Test.YtdnacfnmaieeiaaStApplyMatchesSpec
import Derived.Test.YtdnacfnmaieeiaaPureApplyMore
set_option linter.unusedSimpArgs false
set_option linter.unusedVariables false
namespace Go.Proofs.Ytdnacfnmaieeiaa.Print
open Go.RowKit Go.Proofs.YtdnacfnmaieeiaaW.PrintWords Go.Proofs.YtdnacfnmaieeiaaO.Opn Go.Proofs.YtdnacfnmaieeiaaO.Kit
theorem in_some (a b c : Int) : posthouseref5_In.f a b c = some (decide (b ≤ a ∧ a ≤ c)) := by
  unfold posthouseref5_In.f
  by_cases h : b ≤ a
  · rw [if_pos h]; simp [h]
  · rw [if_neg h]; simp [h]
theorem added_ev (l : List ByteArray) (s : ByteArray) (h : l.length < 1000) : Ev (fun k => posthouseref6_Added.f k l s) (addT l s) := by
  unfold posthouseref6_Added.f addT
  refine Ev.bind (has_ev l s (by omega)) (ev_ite' (fun _ => Ev.now _) fun _ => ?_)
  refine ev_some (ev_pos (by simp; omega) (ev_some (ev_pos (by simp; omega) (ev_now (by simp)))))
/-- The bits from a place on, one by one. -/
def qq : Nat → Int
  | 0 => 64
  | m + 1 => 2 ^ (5 - m)
def orFrom : Nat → Int → Int → Int
  | 0, f, _ => f
  | m + 1, f, n => orFrom m (if Int.tmod (wrap64 (Int.tdiv n (qq (m + 1)))) 2 = 1 then (if Int.tmod (wrap64 (Int.tdiv f (qq (m + 1)))) 2 = 0 then wrap64 (f + qq (m + 1)) else f) else f) n
theorem or_all : ∀ f n : Fin 64, orFrom 6 (f.val : Int) (n.val : Int) = ((f.val ||| n.val : Nat) : Int) := by decide +kernel
theorem or_from (f n : Int) (hf : 0 ≤ f) (hf1 : f < 64) (hn : 0 ≤ n) (hn1 : n < 64) : orFrom 6 f n = orI f n := by
  rw [or_nat f n hf hf1 hn hn1]
  have := or_all ⟨f.toNat, by omega⟩ ⟨n.toNat, by omega⟩
  simp only [] at this
  rw [← this]
  congr 1 <;> omega
theorem qq_all : ∀ m : Fin 6, qq (m.val + 1) < 64 ∧ ¬ qq (m.val + 1) = 0 ∧ wrap64 (2 * qq (m.val + 1)) = qq m.val := by decide +kernel
section
variable {L : List S35} {i : Int} {R : Eff}
theorem l1_no {b a r p : List ByteArray} {f c n : Int} {t : ByteArray} (hc : ¬ c = 6) (h : Ev (fun k => posthouseref6_EffectOf.l0 k L (wrap64 (i + 1)) b a r p f) R) :
    Ev (fun k => posthouseref6_EffectOf.l1 k L i 1 b a r p f c t n) R := by
  refine ev_succ ?_
  simp only [posthouseref6_EffectOf.l1]
  refine ev_pos (by decide) (ev_succ ?_)
  simp only [posthouseref6_EffectOf.j8]
  exact ev_neg (by simpa using hc) h
theorem l1_yes {b a r p : List ByteArray} {n : Int} {t : ByteArray} : ∀ (m : Nat) (f : Int), m ≤ 6 → Ev (fun k => posthouseref6_EffectOf.l0 k L (wrap64 (i + 1)) b a r p (orFrom m f n)) R →
    Ev (fun k => posthouseref6_EffectOf.l1 k L i (qq m) b a r p f 6 t n) R := by
  intro m
  induction m with
  | zero =>
    intro f _ h
    refine ev_succ ?_
    simp only [posthouseref6_EffectOf.l1]
    refine ev_neg (by decide) (ev_succ ?_)
    simp only [posthouseref6_EffectOf.j8]
    exact ev_neg (by decide) h
  | succ m ih =>
    intro f hm h
    obtain ⟨h1, h2, h3⟩ := qq_all ⟨m, by omega⟩
    dsimp only at h1 h2 h3
    refine ev_succ ?_
    simp only [posthouseref6_EffectOf.l1]
    refine ev_pos h1 (ev_succ ?_)
    simp only [posthouseref6_EffectOf.j8]
    refine ev_pos (by decide) (ev_neg h2 ?_)
    rw [h3]
    simp only [orFrom] at h
    refine ev_ite (fun c1 => ev_ite (fun c2 => ih _ (by omega) ?_) (fun c2 => ih _ (by omega) ?_)) (fun c1 => ih _ (by omega) ?_)
    · rwa [if_pos c1, if_pos c2] at h
    · rwa [if_pos c1, if_neg c2] at h
    · rwa [if_neg c1] at h
theorem j6_ev {b a r p : List ByteArray} {f c n : Int} {t : ByteArray} (hn : c = 6 → 0 ≤ n ∧ n ≤ 63) (hf : 0 ≤ f) (hf1 : f < 64) (h : Ev (fun k => posthouseref6_EffectOf.l0 k L (wrap64 (i + 1)) b a r p (if c = 6 then orI f n else f)) R) :
    Ev (fun k => posthouseref6_EffectOf.j6 k L i b a r p f c t n) R := by
  refine ev_succ ?_
  simp only [posthouseref6_EffectOf.j6]
  by_cases hc : c = 6
  · rw [if_pos hc] at h
    subst hc
    have := hn rfl
    refine l1_yes 6 f (by omega) ?_
    rwa [or_from f n hf hf1 (by omega) (by omega)]
  · rw [if_neg hc] at h
    exact l1_no hc h
theorem j5_ev {b a r p : List ByteArray} {f c n : Int} {t : ByteArray} (hp : p.length < 1000) (h : Ev (fun k => posthouseref6_EffectOf.j6 k L i b a r (if c = 7 then addT p t else p) f c t n) R) :
    Ev (fun k => posthouseref6_EffectOf.j5 k L i b a r p f c t n) R := by
  refine ev_succ ?_
  simp only [posthouseref6_EffectOf.j5]
  refine ev_ite (fun hc => Ev.bind (added_ev _ _ hp) ?_) (fun hc => ?_)
  · rwa [if_pos hc] at h
  · rwa [if_neg hc] at h
theorem j4_ev {b a r p : List ByteArray} {f c n : Int} {t : ByteArray} (hp : r.length < 1000) (h : Ev (fun k => posthouseref6_EffectOf.j5 k L i b a (if c = 5 then addT r t else r) p f c t n) R) :
    Ev (fun k => posthouseref6_EffectOf.j4 k L i b a r p f c t n) R := by
  refine ev_succ ?_
  simp only [posthouseref6_EffectOf.j4]
  refine ev_ite (fun hc => Ev.bind (added_ev _ _ hp) ?_) (fun hc => ?_)
  · rwa [if_pos hc] at h
  · rwa [if_neg hc] at h
theorem j3_ev {b a r p : List ByteArray} {f c n : Int} {t : ByteArray} (hp : a.length < 1000) (h : Ev (fun k => posthouseref6_EffectOf.j4 k L i b (if c = 4 then addT a t else a) r p f c t n) R) :
    Ev (fun k => posthouseref6_EffectOf.j3 k L i b a r p f c t n) R := by
  refine ev_succ ?_
  simp only [posthouseref6_EffectOf.j3]
  refine ev_ite (fun hc => Ev.bind (added_ev _ _ hp) ?_) (fun hc => ?_)
  · rwa [if_pos hc] at h
  · rwa [if_neg hc] at h
theorem j2_ev {b a r p : List ByteArray} {f c n : Int} {t : ByteArray} (hp : b.length < 1000) (h : Ev (fun k => posthouseref6_EffectOf.j3 k L i (if c = 2 then addT b t else b) a r p f c t n) R) :
    Ev (fun k => posthouseref6_EffectOf.j2 k L i b a r p f c t n) R := by
  refine ev_succ ?_
  simp only [posthouseref6_EffectOf.j2]
  refine ev_ite (fun hc => Ev.bind (added_ev _ _ hp) ?_) (fun hc => ?_)
  · rwa [if_pos hc] at h
  · rwa [if_neg hc] at h
theorem j1_ev {b a r p : List ByteArray} {f c n : Int} {t : ByteArray} (hp : b.length < 1000) (h : Ev (fun k => posthouseref6_EffectOf.j2 k L i (if c = 1 then addT b inbox else b) a r p f c t n) R) :
    Ev (fun k => posthouseref6_EffectOf.j1 k L i false b a r p f c t n) R := by
  refine ev_succ ?_
  simp only [posthouseref6_EffectOf.j1]
  refine ev_neg (by decide) (ev_ite (fun hc => Ev.bind (added_ev _ _ hp) ?_) (fun hc => ?_))
  · rwa [if_pos hc] at h
  · rwa [if_neg hc] at h
end
theorem len_if (c : Prop) [Decidable c] (l : List ByteArray) (s : ByteArray) : (if c then addT l s else l).length ≤ l.length + 1 := by
  have := addT_len l s
  split <;> omega
theorem effectOf_ev (L : List S35) (hL : L.length ≤ 300) : ∀ (l : List S35) (i : Nat), L.drop i = l → ∀ s : St, 0 ≤ s.f → s.f < 64 → s.b.length ≤ i → s.a.length ≤ i → s.r.length ≤ i → s.p.length ≤ i →
    Ev (fun k => posthouseref6_EffectOf.l0 k L i s.b s.a s.r s.p s.f) (effsS l i s) := by
  intro l
  induction l with
  | nil =>
    intro i hd s _ _ _ _ _ _
    have := drop_ge hd
    refine ev_succ ?_
    simp only [posthouseref6_EffectOf.l0]
    exact ev_neg (by omega) (Ev.now _)
  | cons x l ih =>
    intro i hd s hf hf1 hb ha hr hp
    have hlt := drop_lt hd
    have hx : rd_T35 L i = x := getD_drop (i := (i : Int).toNat) hd
    have hd' := drop_step hd
    have e1 : ((i : Int) + 1) = ((i + 1 : Nat) : Int) := by omega
    refine ev_succ ?_
    simp only [posthouseref6_EffectOf.l0, hx, in_some, posthouseref5_At.f, Option.bind_some]
    refine ev_pos (by omega) (ev_pos (by omega) ?_)
    rw [effsS_cons]
    by_cases c0 : (x.f1.size : Int) > 4000
    · refine ev_pos c0 (ev_now ?_)
      simp [one, c0, bad]
    refine ev_neg c0 ?_
    by_cases hk : ¬ (1 ≤ x.f0 ∧ x.f0 ≤ 7)
    · refine ev_neg (by simpa using hk) (ev_now ?_)
      have : (one x s).1 = 4 := by
        unfold one
        rw [if_neg c0, if_neg (by omega), if_neg (by omega), if_neg (by omega), if_neg (by omega), if_neg (by omega), if_neg (by omega), if_neg (by omega)]
      rw [this, if_neg (by decide)]
      rfl
    replace hk := Classical.not_not.1 hk
    refine ev_pos (by simpa using hk) ?_
    have hbad : x.f0 = 6 → ¬ (0 ≤ x.f2 ∧ x.f2 ≤ 63) → (one x s).1 = 3 := by
      intro h6 hn
      unfold one
      rw [if_neg c0, if_neg (by omega), if_neg (by omega), if_neg (by omega), if_neg (by omega), if_neg (by omega), if_pos h6]
      by_cases h : x.f2 < 0
      · rw [if_pos h]
      · rw [if_neg h, if_pos (by omega)]
    have hgood : (x.f0 = 6 → 0 ≤ x.f2 ∧ x.f2 ≤ 63) → (one x s).1 = 0 ∧ (one x s).2 = ⟨if x.f0 = 2 then addT (if x.f0 = 1 then addT s.b inbox else s.b) x.f1 else (if x.f0 = 1 then addT s.b inbox else s.b), if x.f0 = 4 then addT s.a x.f1 else s.a, if x.f0 = 5 then addT s.r x.f1 else s.r, if x.f0 = 7 then addT s.p x.f1 else s.p, if x.f0 = 6 then orI s.f x.f2 else s.f⟩ := by
      intro hn
      unfold one
      rw [if_neg c0]
      rcases (show x.f0 = 1 ∨ x.f0 = 2 ∨ x.f0 = 3 ∨ x.f0 = 4 ∨ x.f0 = 5 ∨ x.f0 = 6 ∨ x.f0 = 7 by omega) with c | c | c | c | c | c | c
      all_goals simp [c]
      have := hn c
      simp [show ¬ x.f2 < 0 by omega, show ¬ 63 < x.f2 by omega]
    have hgo : (x.f0 = 6 → 0 ≤ x.f2 ∧ x.f2 ≤ 63) → Ev (fun k => posthouseref6_EffectOf.j1 k L i false s.b s.a s.r s.p s.f x.f0 x.f1 x.f2) (if (one x s).1 = 0 then effsS l (↑i + 1) (one x s).2 else bad (one x s).1 ↑i) := by
      intro hn
      obtain ⟨g1, g2⟩ := hgood hn
      have ok := one_ok hf hf1 g1
      rw [if_pos g1]
      refine j1_ev (by omega) (j2_ev ?_ (j3_ev (by omega) (j4_ev (by omega) (j5_ev (by omega) (j6_ev hn hf hf1 ?_)))))
      · have := len_if (x.f0 = 1) s.b inbox
        omega
      · rw [w1 (by omega) (by omega), e1]
        have hh := ih (i + 1) hd' (one x s).2 ok.2.2.1 ok.2.2.2.1
        rw [g2] at hh ⊢
        dsimp only at hh
        refine hh ?_ ?_ ?_ ?_
        · have h1 := len_if (x.f0 = 1) s.b inbox
          by_cases h : x.f0 = 2
          · rw [if_neg (show ¬ x.f0 = 1 by omega)]
            have := len_if (x.f0 = 2) s.b x.f1
            omega
          · rw [if_neg h]
            omega
        · have := len_if (x.f0 = 4) s.a x.f1; omega
        · have := len_if (x.f0 = 5) s.r x.f1; omega
        · have := len_if (x.f0 = 7) s.p x.f1; omega
    refine ev_ite (fun h6 => ?_) (fun h6 => hgo (fun h => absurd h h6))
    by_cases hn : 0 ≤ x.f2 ∧ x.f2 ≤ 63
    · have : (!decide (0 ≤ x.f2 ∧ x.f2 ≤ 63)) = false := by simp [hn]
      rw [this]
      exact hgo (fun _ => hn)
    · have : (!decide (0 ≤ x.f2 ∧ x.f2 ≤ 63)) = true := by simp; omega
      rw [this]
      refine ev_succ ?_
      simp only [posthouseref6_EffectOf.j1, posthouseref5_At.f, Option.bind_some]
      refine ev_pos trivial (ev_now ?_)
      rw [hbad h6 hn, if_neg (by decide)]
      rfl
theorem effectOf (L : List S35) : Ev (fun k => posthouseref6_EffectOf.f k L) (effects L) := by
  unfold posthouseref6_EffectOf.f effects
  simp only [posthouseref5_At.f, Option.bind_some]
  refine ev_ite' (fun _ => Ev.now _) fun h => ?_
  exact effectOf_ev L (by omega) L 0 (by simp) ⟨[], [], [], [], 0⟩ (by decide) (by decide) (by simp) (by simp) (by simp) (by simp)
theorem posthouselaw6_ApplyMatchesSpec.pure : posthouselaw6_ApplyMatchesSpec.Pure := by
  intro l _
  refine Ev.rounds ?_
  unfold posthouselaw6_ApplyMatchesSpec.f
  refine Ev.bind (effects_ev l) (Ev.bind (effectOf l) (ev_pos (by simp) ?_))
  have hl := effects_len l
  exact Ev.bind (same_ev _ _ _ _ _ _ _ _ _ _ (by omega) (by omega) (by omega) (by omega)) (ev_pos (by simp) (Ev.bind applied_ev (Ev.now _)))
end Go.Proofs.Ytdnacfnmaieeiaa.Print
