import Derived.Test.YtdnacfnmaieeiaaStPatternsIgnoreCase
import Derived.Test.YtdnacfnmaieeiaaPurePatMatch
set_option linter.unusedSimpArgs false
set_option linter.unusedVariables false
namespace Go.Proofs.Ytdnacfnmaieeiaa.Print
open Go.RowKit Go.Proofs.YtdnacfnmaieeiaaW.PrintWords Go.Proofs.YtdnacfnmaieeiaaO.Opn Go.Proofs.YtdnacfnmaieeiaaO.Kit
theorem eqL_low (a b : List Int) : eqL (a.map low) b = eqL a b := by
  unfold eqL
  rw [List.map_map, show low ∘ low = low from funext low_low]
theorem hasL_low (b : List Int) : ∀ a : List Int, hasL b (a.map low) = hasL b a
  | [] => rfl
  | c :: r => by
    show (eqL ((low c :: r.map low).take b.length) b || hasL b (r.map low)) = (eqL ((c :: r).take b.length) b || hasL b r)
    rw [hasL_low b r, show low c :: r.map low = (c :: r).map low from rfl, ← List.map_take, eqL_low]
theorem starF_low (g : List Int → Bool) (hg : ∀ s, g (s.map low) = g s) : ∀ s : List Int, starF g (s.map low) = starF g s
  | [] => rfl
  | c :: r => by
    show (g ((c :: r).map low) || starF g (r.map low)) = (g (c :: r) || starF g r)
    rw [hg, starF_low g hg r]
theorem least_low (g : List Int → Bool) (hg : ∀ s, g (s.map low) = g s) : ∀ s : List Int, least g (s.map low) = least g s
  | [] => rfl
  | c :: r => by
    show (if g ((c :: r).map low) = true then 0 else least g (r.map low) + 1) = (if g (c :: r) = true then 0 else least g r + 1)
    rw [hg, least_low g hg r]
theorem fit_low : ∀ (l : List S56) (s : List Int), fit l (s.map low) = fit l s
  | [], s => by cases s <;> rfl
  | p :: l, s => by
    by_cases h : p.f0 = 42
    · rw [fit_star h, fit_star h, starF_low _ (fit_low l)]
    · cases s with
      | nil => rfl
      | cons c r =>
        show fit (p :: l) (low c :: r.map low) = fit (p :: l) (c :: r)
        rw [fit_one h, fit_one h, fit_low l r, low_low]
/-- Lists of texts that are equal without regard to case. -/
def alikeLs : List ByteArray → List ByteArray → Prop
  | [], [] => True
  | a :: l, b :: m => eqL (chars a) (chars b) = true ∧ alikeLs l m
  | _, _ => False
theorem alikeLs_len : ∀ {l m : List ByteArray}, alikeLs l m → l.length = m.length
  | [], [], _ => rfl
  | a :: l, b :: m, h => by simp [alikeLs_len h.2]
  | [], _ :: _, h => h.elim
  | _ :: _, [], h => h.elim
theorem extract_low (t u : ByteArray) (h : chars u = (chars t).map low) (i j : Nat) : eqL (chars (t.extract i j)) (chars (u.extract i j)) = true := by
  rw [chars_extract, chars_extract, h, ← List.map_take, ← List.map_drop]
  unfold eqL
  rw [List.map_map, show low ∘ low = low from funext low_low]
  simp
theorem cut_low (t u : ByteArray) (h : chars u = (chars t).map low) : ∀ (l : List S56) (i : Nat), alikeLs (cut t l i) (cut u l i)
  | [], _ => trivial
  | p :: l, i => by
    by_cases hs : p.f0 = 42
    · rw [cut_star t hs, cut_star u hs, h, ← List.map_drop, least_low _ (fit_low l)]
      exact ⟨extract_low t u h _ _, cut_low t u h l _⟩
    · by_cases h0 : p.f0 = 0
      · rw [cut_lit t h0, cut_lit u h0]
        exact cut_low t u h l _
      · rw [cut_any t hs h0, cut_any u hs h0]
        exact ⟨extract_low t u h _ _, cut_low t u h l _⟩
theorem mall_low (kind : Int) (p t u : ByteArray) (h : chars u = (chars t).map low) : (mall kind p u).1 = (mall kind p t).1 ∧ (mall kind p u).2.2 = (mall kind p t).2.2 ∧ alikeLs (mall kind p t).2.1 (mall kind p u).2.1 := by
  have hs : u.size = t.size := by rw [← chars_len, ← chars_len, h, List.length_map]
  have hf : mfault kind p u = mfault kind p t := by unfold mfault; rw [hs]
  unfold mall
  rw [hf]
  by_cases hz : mfault kind p t = (0, 0)
  · rw [if_pos hz, if_pos hz]
    unfold mres
    rw [h]
    by_cases c1 : kind = 1
    · rw [if_pos c1, if_pos c1, eqL_low]
      exact ⟨rfl, rfl, trivial⟩
    · rw [if_neg c1, if_neg c1]
      by_cases c2 : kind = 2
      · rw [if_pos c2, if_pos c2, hasL_low]
        exact ⟨rfl, rfl, trivial⟩
      · rw [if_neg c2, if_neg c2]
        rcases pc (chars p) with _ | l
        · exact ⟨rfl, rfl, trivial⟩
        · show (wres u l).1 = (wres t l).1 ∧ _ ∧ alikeLs (wres t l).2 (wres u l).2
          unfold wres
          rw [h, fit_low]
          by_cases hfit : fit l (chars t) = true
          · rw [if_pos hfit, if_pos hfit]
            exact ⟨rfl, rfl, cut_low t u h l 0⟩
          · rw [if_neg hfit, if_neg hfit]
            exact ⟨rfl, rfl, trivial⟩
  · rw [if_neg hz, if_neg hz]
    exact ⟨rfl, rfl, trivial⟩
theorem mall_len (kind : Int) (p t : ByteArray) : (mall kind p t).2.1.length ≤ 200 := by
  unfold mall
  by_cases hz : mfault kind p t = (0, 0)
  · rw [if_pos hz]
    have k3 := (pfault_zero (mfault_zero hz).1).2.2.1
    rw [chars_len] at k3
    exact mres_len kind p t k3
  · rw [if_neg hz]
    simp
theorem alikeLs_drop : ∀ (i : Nat) {l m : List ByteArray}, alikeLs l m → alikeLs (l.drop i) (m.drop i)
  | 0, _, _, h => h
  | i + 1, [], [], h => h
  | i + 1, a :: l, b :: m, h => alikeLs_drop i h.2
  | i + 1, [], _ :: _, h => h.elim
  | i + 1, _ :: _, [], h => h.elim
theorem chars_ofNums (xs : List Int) (h : ∀ x ∈ xs, 0 ≤ x ∧ x ≤ 255) : chars (strOfNums xs) = xs := by
  unfold strOfNums chars
  simp only [List.map_map]
  conv => rhs; rw [← List.map_id xs]
  refine List.map_congr_left fun x hx => ?_
  have := h x hx
  simp only [Function.comp, id]
  have h2 : (UInt8.ofNat x.toNat).toNat = x.toNat % 256 := UInt8.toNat_ofNat'
  omega
theorem mall_size (kind : Int) (p t : ByteArray) : ∀ x ∈ (mall kind p t).2.1, x.size ≤ t.size := by
  have key : ∀ (l : List S56) (i : Nat), ∀ x ∈ cut t l i, x.size ≤ t.size := by
    intro l
    induction l with
    | nil => intro i x hx; cases hx
    | cons p l ih =>
      intro i x hx
      have he : ∀ a b, (t.extract a b).size ≤ t.size := fun a b => by rw [ByteArray.size_extract]; omega
      by_cases hs : p.f0 = 42
      · rw [cut_star t hs] at hx
        rcases List.mem_cons.1 hx with rfl | hx
        · exact he _ _
        · exact ih _ x hx
      · by_cases h0 : p.f0 = 0
        · rw [cut_lit t h0] at hx
          exact ih _ x hx
        · rw [cut_any t hs h0] at hx
          rcases List.mem_cons.1 hx with rfl | hx
          · exact he _ _
          · exact ih _ x hx
  intro x hx
  unfold mall at hx
  by_cases hz : mfault kind p t = (0, 0)
  · rw [if_pos hz] at hx
    unfold mres at hx
    by_cases c1 : kind = 1
    · rw [if_pos c1] at hx; cases hx
    · rw [if_neg c1] at hx
      by_cases c2 : kind = 2
      · rw [if_pos c2] at hx; cases hx
      · rw [if_neg c2] at hx
        rcases hq : pc (chars p) with _ | l
        · rw [hq] at hx; cases hx
        · rw [hq] at hx
          change x ∈ (wres t l).2 at hx
          unfold wres at hx
          by_cases hf : fit l (chars t) = true
          · rw [if_pos hf] at hx
            exact key l 0 x hx
          · rw [if_neg hf] at hx
            cases hx
  · rw [if_neg hz] at hx
    cases hx
theorem posthouselaw6_PatternsIgnoreCase.pure : posthouselaw6_PatternsIgnoreCase.Want := by
  intro kind p t _ _ ht
  have ht' : t.size ≤ 140737488351232 := ht
  refine Ev.rounds ?_
  unfold posthouselaw6_PatternsIgnoreCase.f
  refine Ev.bind (match_ev kind p t) ?_
  have key : ∀ (n i : Nat), i + n = t.size → Ev (fun k => posthouselaw6_PatternsIgnoreCase.l0 k kind p t (mall kind p t).1 (mall kind p t).2.1 (((chars t).take i).map low) i (mall kind p t).2.2.1 (mall kind p t).2.2.2) true := by
    intro n
    induction n with
    | zero =>
      intro i hi
      have hu : chars (strOfNums ((chars t).map low)) = (chars t).map low := chars_ofNums _ fun x hx => by
        obtain ⟨y, hy, rfl⟩ := List.mem_map.1 hx
        have := chars_byte t y hy
        unfold low
        split <;> omega
      obtain ⟨h1, h2, h3⟩ := mall_low kind p t _ hu
      have hlen := alikeLs_len h3
      have hl := mall_len kind p t
      refine ev_succ ?_
      simp only [posthouselaw6_PatternsIgnoreCase.l0]
      rw [List.take_of_length_le (by rw [chars_len]; omega)]
      refine ev_neg (by omega) (Ev.bind (match_ev kind p _) ?_)
      rw [h1, h2]
      refine ev_neg (by simp) (ev_neg (by simp) ?_)
      refine ev_succ ?_
      simp only [posthouselaw6_PatternsIgnoreCase.j1]
      refine ev_neg (by rw [hlen]; simp) ?_
      have loop : ∀ (d j : Nat), j + d = (mall kind p t).2.1.length → Ev (fun k => posthouselaw6_PatternsIgnoreCase.l1 k (mall kind p t).2.1 (mall kind p (strOfNums ((chars t).map low))).2.1 j) true := by
        intro d
        induction d with
        | zero =>
          intro j hj
          refine ev_succ ?_
          simp only [posthouselaw6_PatternsIgnoreCase.l1]
          exact ev_neg (by omega) (Ev.bind matched_ev (Ev.now _))
        | succ d ih =>
          intro j hj
          have hlt : j < (mall kind p t).2.1.length := by omega
          have hlt' : j < (mall kind p (strOfNums ((chars t).map low))).2.1.length := by omega
          have hd := List.drop_eq_getElem_cons hlt
          have hd' := List.drop_eq_getElem_cons hlt'
          have ha := alikeLs_drop j h3
          rw [hd, hd'] at ha
          have hsz := mall_size kind p t _ (List.getElem_mem hlt)
          refine ev_succ ?_
          simp only [posthouselaw6_PatternsIgnoreCase.l1, rdOf_drop (d := ByteArray.empty) (i := (j : Int)) hd, rdOf_drop (d := ByteArray.empty) (i := (j : Int)) hd', wN (show j < 9223372036854775807 by omega)]
          exact ev_pos (by omega) (ev_pos (by omega) (ev_pos (by omega) (Ev.bind (alikeT_ev _ _ (by omega)) (ev_pos ha.1 (ih (j + 1) (by omega))))))
      exact loop (mall kind p t).2.1.length 0 (by omega)
    | succ n ih =>
      intro i hi
      have hr := bt_range t i
      refine ev_succ ?_
      simp only [posthouselaw6_PatternsIgnoreCase.l0, low_some _ hr.1 hr.2, Option.bind_some, wN (show i < 9223372036854775807 by omega)]
      refine ev_pos (by omega) (ev_pos (by omega) (ev_pos (by simp [chars_len]; omega) ?_))
      have hsn : ((chars t).take i).map low ++ [low (bt t i)] = ((chars t).take (i + 1)).map low := by
        rw [List.take_succ_eq_append_getElem (by rw [chars_len]; omega), chars_get t i (by omega)]
        simp
      rw [hsn]
      exact ih (i + 1) (by omega)
  have := key t.size 0 (by omega)
  simpa using this
end Go.Proofs.Ytdnacfnmaieeiaa.Print
