import Derived.Test.YtdnacfnmaieeiaaStPatternsWithStars
import Derived.Test.YtdnacfnmaieeiaaPurePatMatch
set_option linter.unusedSimpArgs false
set_option linter.unusedVariables false
namespace Go.Proofs.Ytdnacfnmaieeiaa.Print
open Go.RowKit Go.Proofs.YtdnacfnmaieeiaaW.PrintWords Go.Proofs.YtdnacfnmaieeiaaO.Opn Go.Proofs.YtdnacfnmaieeiaaO.Kit
def plainL (s : List Int) : Prop := ∀ c ∈ s, ¬ (c = 42 ∨ c = 63) ∧ ¬ c = 92
def lits (s : List Int) : List S56 := s.map fun c => ⟨0, c⟩
theorem pc_plain : ∀ (s r : List Int), plainL s → pc (s ++ r) = (pc r).map (lits s ++ ·)
  | [], r, _ => by
    show pc r = _
    rcases pc r with _ | l <;> simp [lits]
  | c :: s, r, h => by
    have hc := h c List.mem_cons_self
    show pc (c :: (s ++ r)) = _
    rw [pc_lit hc.1 hc.2, pc_plain s r (fun x hx => h x (List.mem_cons_of_mem _ hx))]
    cases pc r <;> simp [lits]
theorem fit_end : ∀ s : List Int, fit [(⟨42, 0⟩ : S56)] s = true
  | s => by
    rw [fit_star rfl, starF_iff']
    exact ⟨s.length, Nat.le_refl _, by rw [List.drop_length]; rfl⟩
where
  starF_iff' {g : List Int → Bool} {s : List Int} : starF g s = true ↔ ∃ j, j ≤ s.length ∧ g (s.drop j) = true := starF_iff g s
theorem fit_lits : ∀ (b s : List Int), fit (lits b ++ [(⟨42, 0⟩ : S56)]) s = eqL (s.take b.length) b
  | [], s => by
    show fit [(⟨42, 0⟩ : S56)] s = _
    rw [fit_end]
    rfl
  | c :: b, [] => by
    show fit (⟨0, c⟩ :: (lits b ++ [(⟨42, 0⟩ : S56)])) [] = _
    rw [fit_none (by show ¬ (0 : Int) = 42; decide)]
    rfl
  | c :: b, d :: s => by
    show fit (⟨0, c⟩ :: (lits b ++ [(⟨42, 0⟩ : S56)])) (d :: s) = eqL (d :: s.take b.length) (c :: b)
    rw [fit_one (by show ¬ (0 : Int) = 42; decide), fit_lits b s]
    unfold eqL
    rw [Bool.eq_iff_iff]
    simp only [List.map_cons, List.cons.injEq, Bool.and_eq_true, Bool.or_eq_true, decide_eq_true_eq]
    constructor
    · rintro ⟨h1, h2 | h2⟩
      · exact absurd h2 (by decide)
      · exact ⟨h2.symm, h1⟩
    · rintro ⟨h1, h2⟩
      exact ⟨h2, .inr h1.symm⟩
theorem hasL_star (b : List Int) : ∀ a : List Int, hasL b a = starF (fit (lits b ++ [(⟨42, 0⟩ : S56)])) a
  | [] => by
    show eqL [] b = fit (lits b ++ [(⟨42, 0⟩ : S56)]) []
    rw [fit_lits, List.take_nil]
  | c :: r => by
    show (eqL ((c :: r).take b.length) b || hasL b r) = (fit (lits b ++ [(⟨42, 0⟩ : S56)]) (c :: r) || starF (fit (lits b ++ [(⟨42, 0⟩ : S56)])) r)
    rw [fit_lits, hasL_star b r]
theorem cut_lits (t : ByteArray) : ∀ (b : List Int) (i : Nat), cut t (lits b ++ [(⟨42, 0⟩ : S56)]) i = [t.extract (i + b.length) (i + b.length + least (fit []) ((chars t).drop (i + b.length)))]
  | [], i => by
    show cut t [(⟨42, 0⟩ : S56)] i = _
    rw [cut_star t rfl]
    rfl
  | c :: b, i => by
    show cut t (⟨0, c⟩ :: (lits b ++ [(⟨42, 0⟩ : S56)])) i = _
    rw [cut_lit t rfl, cut_lits t b (i + 1)]
    simp only [List.length_cons]
    rw [show i + 1 + b.length = i + (b.length + 1) by omega]
theorem least_nil : ∀ s : List Int, least (fit []) s = s.length
  | [] => rfl
  | c :: r => by
    show (if fit [] (c :: r) = true then 0 else least (fit []) r + 1) = _
    rw [if_neg (by simp [fit]), least_nil r]
    rfl
theorem wsum3 (e p t : Nat) (h : e + p ≤ t) (ht : t ≤ 4000) : wrap64 (wrap64 ((e : Int) + (p : Int)) + ((t - (e + p) : Nat) : Int)) = (t : Int) := by
  obtain ⟨d, rfl⟩ : ∃ d, t = e + p + d := ⟨t - (e + p), by omega⟩
  rw [Nat.add_sub_cancel_left]
  unfold wrap64
  omega
theorem wsum4 (e p t : Nat) (h : e + p ≤ t) (ht : t ≤ 4000) : e + p ≤ 9223372036854775807 := by omega
theorem wsum5 (e p t : Nat) (h : e + p ≤ t) (ht : t ≤ 4000) : e + p + (t - (e + p)) ≤ 9223372036854775807 := by
  rw [Nat.add_sub_cancel' h]
  omega
theorem wsum6 (e p t : Nat) (h : e + p ≤ t) (ht : t ≤ 4000) : e + p + (t - (e + p)) ≤ 9223372036854775806 := by
  rw [Nat.add_sub_cancel' h]
  omega
theorem posthouselaw6_PatternsWithStars.pure : posthouselaw6_PatternsWithStars.Want := by
  intro p t hp0 ht0
  have hp : p.size ≤ 140737488351232 := hp0
  have ht : t.size ≤ 140737488351232 := ht0
  refine Ev.rounds ?_
  unfold posthouselaw6_PatternsWithStars.f
  have hM := matched_ev
  have key : ∀ (n i : Nat), i + n = p.size → plainL ((chars p).take i) → Ev (fun k => posthouselaw6_PatternsWithStars.l0 k p t i) true := by
    intro n
    induction n with
    | zero =>
      intro i hi hpl
      rw [List.take_of_length_le (by rw [chars_len]; omega)] at hpl
      refine ev_succ ?_
      simp only [posthouselaw6_PatternsWithStars.l0]
      refine ev_neg (by omega) ?_
      have hs1 : ((⟨#[42]⟩ : ByteArray) ++ p).size = p.size + 1 := by rw [ByteArray.size_append]; show 1 + p.size = _; omega
      have hs2 : (((⟨#[42]⟩ : ByteArray) ++ p) ++ (⟨#[42]⟩ : ByteArray)).size = p.size + 2 := by rw [ByteArray.size_append, hs1]; rfl
      have hq : chars (((⟨#[42]⟩ : ByteArray) ++ p) ++ (⟨#[42]⟩ : ByteArray)) = 42 :: (chars p ++ [42]) := by rw [chars_append, chars_append]; rfl
      refine Ev.bind (match_ev 2 p t) (ev_pos (by omega) (ev_pos (by omega) (Ev.bind (match_ev 3 _ t) ?_)))
      have hbad : Ev (fun k => posthouselaw6_PatternsWithStars.j1 k p t (mall 2 p t).1 (mall 3 (((⟨#[42]⟩ : ByteArray) ++ p) ++ (⟨#[42]⟩ : ByteArray)) t).1 (mall 3 (((⟨#[42]⟩ : ByteArray) ++ p) ++ (⟨#[42]⟩ : ByteArray)) t).2.1 true) true := by
        refine ev_succ ?_
        simp only [posthouselaw6_PatternsWithStars.j1]
        exact ev_pos trivial (Ev.bind hM (Ev.now _))
      have hpcs : pc (chars (((⟨#[42]⟩ : ByteArray) ++ p) ++ (⟨#[42]⟩ : ByteArray))) = some (⟨42, 0⟩ :: (lits (chars p) ++ [⟨42, 0⟩])) := by
        rw [hq, pc_star (.inl rfl), pc_plain _ _ hpl]
        rfl
      have hcode : ∀ kind q, mfault kind q t = (0, 0) ∨ ¬ (mall kind q t).2.2.1 = 0 := by
        intro kind q
        by_cases h : mfault kind q t = (0, 0)
        · exact .inl h
        · refine .inr ?_
          unfold mall
          rw [if_neg h]
          unfold mfault pfault at h ⊢
          intro h1
          dsimp only at h1
          apply h
          split
          · rename_i h2
            rw [if_pos h2] at h1
            cases h1
          · rename_i h2
            rw [if_neg h2] at h1
            split
            · rename_i h3
              rw [if_pos h3] at h1
              cases h1
            · rename_i h3
              rw [if_neg h3] at h1
              split
              · rename_i h4
                rw [if_pos h4] at h1
                cases h1
              · rename_i h4
                rw [if_neg h4] at h1
                split
                · rename_i h5
                  rw [if_pos h5] at h1
                  cases h1
                · rfl
      have hcode2 : ∀ kind q, mfault kind q t = (0, 0) → (mall kind q t).2.2.1 = 0 := by
        intro kind q h
        unfold mall
        rw [if_pos h]
      rcases hcode 2 p with hz2 | hz2
      · refine ev_pos (hcode2 _ _ hz2) ?_
        rcases hcode 3 (((⟨#[42]⟩ : ByteArray) ++ p) ++ (⟨#[42]⟩ : ByteArray)) with hz3 | hz3
        · rw [hcode2 _ _ hz3]
          obtain ⟨_, ht4⟩ := mfault_zero hz2
          have hp2 := (pfault_zero (mfault_zero hz2).1).2.2.1
          rw [chars_len] at hp2
          have e2 : mall 2 p t = (hasL (chars p) (chars t), [], 0, 0) := by
            unfold mall mres
            rw [if_pos hz2, if_neg (by decide), if_pos rfl]
          have e3 : mall 3 (((⟨#[42]⟩ : ByteArray) ++ p) ++ (⟨#[42]⟩ : ByteArray)) t = ((wres t (⟨42, 0⟩ :: (lits (chars p) ++ [⟨42, 0⟩]))).1, (wres t (⟨42, 0⟩ :: (lits (chars p) ++ [⟨42, 0⟩]))).2, 0, 0) := by
            unfold mall mres
            rw [if_pos hz3, if_neg (by decide), if_neg (by decide), hpcs]
          rw [e2, e3]
          have hfit : fit (⟨42, 0⟩ :: (lits (chars p) ++ [⟨42, 0⟩])) (chars t) = hasL (chars p) (chars t) := by rw [fit_star rfl, hasL_star]
          refine ev_succ ?_
          simp only [posthouselaw6_PatternsWithStars.j1]
          unfold wres
          rw [hfit]
          refine ev_neg (by decide) (ev_neg (by simp) ?_)
          by_cases hf : hasL (chars p) (chars t) = true
          · rw [hf]
            have hst := hf
            rw [hasL_star] at hst
            have hle := least_le (fit (lits (chars p) ++ [(⟨42, 0⟩ : S56)])) (chars t)
            have hfl := least_fit _ _ hst
            rw [chars_len] at hle
            obtain ⟨e, he⟩ : ∃ e, least (fit (lits (chars p) ++ [(⟨42, 0⟩ : S56)])) (chars t) = e := ⟨_, rfl⟩
            rw [he] at hle hfl
            rw [fit_lits] at hfl
            have hlen : ((chars t).drop e |>.take (chars p).length).length = p.size := by
              have := congrArg List.length (of_decide_eq_true hfl)
              rw [List.length_map, List.length_map] at this
              rw [this, chars_len]
            rw [List.length_take, List.length_drop, chars_len, chars_len] at hlen
            have hep : e + p.size ≤ t.size := by omega
            have hcut : cut t (⟨42, 0⟩ :: (lits (chars p) ++ [⟨42, 0⟩])) 0 = [t.extract 0 e, t.extract (e + p.size) t.size] := by
              rw [cut_star t rfl, List.drop_zero, Nat.zero_add, he, cut_lits, least_nil, List.length_drop, chars_len, chars_len, show e + p.size + (t.size - (e + p.size)) = t.size by omega]
            have s1 : (t.extract 0 e).size = e := by rw [ByteArray.size_extract]; omega
            have s2 : (t.extract (e + p.size) t.size).size = t.size - (e + p.size) := by rw [ByteArray.size_extract]; omega
            have hj2 : Ev (fun k => posthouselaw6_PatternsWithStars.j2 k p t true [t.extract 0 e, t.extract (e + p.size) t.size] false) true := by
              refine ev_succ ?_
              have r0 : rdOf ByteArray.empty [t.extract 0 e, t.extract (e + p.size) t.size] 0 = t.extract 0 e := rfl
              have r1 : rdOf ByteArray.empty [t.extract 0 e, t.extract (e + p.size) t.size] 1 = t.extract (e + p.size) t.size := rfl
              simp only [posthouselaw6_PatternsWithStars.j2, r0, r1, s1, s2, ByteArray.size_append]
              rw [wsum3 e p.size t.size hep ht4]
              have q2 := wsum4 e p.size t.size hep ht4
              have q3 := wsum5 e p.size t.size hep ht4
              refine ev_neg (by decide) ?_
              refine ev_pos trivial ?_
              refine ev_pos (by simp) ?_
              refine ev_pos (by simp) ?_
              refine ev_pos rfl ?_
              refine ev_pos q2 ?_
              refine ev_pos q3 ?_
              refine Ev.bind (alikeT_ev _ t ?_) (ev_pos ?_ (Ev.bind hM (Ev.now _)))
              · rw [ByteArray.size_append, ByteArray.size_append, s1, s2]
                exact wsum6 e p.size t.size hep ht4
              · rw [chars_append, chars_append, chars_extract, chars_extract]
                have hta : (chars t).take t.size = chars t := List.take_of_length_le (by rw [chars_len]; omega)
                rw [hta, List.drop_zero]
                unfold eqL at hfl ⊢
                have h1 := of_decide_eq_true hfl
                refine decide_eq_true ?_
                rw [List.map_append, List.map_append, ← h1, ← List.map_append, ← List.map_append, chars_len]
                congr 1
                have h2 : (chars t).drop (e + p.size) = ((chars t).drop e).drop p.size := by rw [List.drop_drop]
                rw [h2, List.append_assoc, List.take_append_drop, List.take_append_drop]
            refine ev_pos rfl ?_
            have hif : (if (true : Bool) = true then cut t (⟨42, 0⟩ :: (lits (chars p) ++ [⟨42, 0⟩])) 0 else []) = [t.extract 0 e, t.extract (e + p.size) t.size] := by rw [if_pos rfl, hcut]
            rw [hif]
            exact hj2
          · simp only [Bool.not_eq_true] at hf
            rw [hf]
            refine ev_neg (by simp) (ev_succ ?_)
            simp only [posthouselaw6_PatternsWithStars.j2]
            exact ev_neg (by decide) (ev_neg (by decide) (Ev.bind hM (Ev.now _)))
        · have : ((mall 3 (((⟨#[42]⟩ : ByteArray) ++ p) ++ (⟨#[42]⟩ : ByteArray)) t).2.2.1 != 0) = true := by simpa using hz3
          rw [this]
          exact hbad
      · exact ev_neg hz2 hbad
    | succ n ih =>
      intro i hi hpl
      refine ev_succ ?_
      simp only [posthouselaw6_PatternsWithStars.l0, wN (show i < 9223372036854775807 by omega)]
      refine ev_pos (by omega) (ev_pos (by omega) ?_)
      refine ev_ite (fun _ => Ev.bind hM (Ev.now _)) (fun h1 => ev_ite (fun _ => Ev.bind hM (Ev.now _)) (fun h2 => ev_ite (fun _ => Ev.bind hM (Ev.now _)) (fun h3 => ?_)))
      refine ih (i + 1) (by omega) ?_
      rw [List.take_succ_eq_append_getElem (by rw [chars_len]; omega), chars_get p i (by omega)]
      intro c hc
      rcases List.mem_append.1 hc with hc | hc
      · exact hpl c hc
      · rw [List.mem_singleton] at hc
        subst hc
        exact ⟨by omega, h3⟩
  have := key p.size 0 (by omega) (by intro c hc; simp at hc)
  simpa using this
end Go.Proofs.Ytdnacfnmaieeiaa.Print
