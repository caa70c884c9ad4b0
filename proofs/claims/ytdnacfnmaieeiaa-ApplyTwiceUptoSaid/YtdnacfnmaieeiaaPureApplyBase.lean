/- The functions of the package apply in plain words: what actions lead to, and that the program's functions tell it. -/
import Derived.Test.YtdnacfnmaieeiaaKit
import Derived.Test.YtdnacfnmaieeiaaFapplyEffects
import Derived.Test.YtdnacfnmaieeiaaFposthouselaw6applied
import Derived.Test.YtdnacfnmaieeiaaFposthouseref5Has
import Derived.Test.YtdnacfnmaieeiaaArgs
set_option linter.unusedSimpArgs false
set_option linter.unusedVariables false
namespace Go.Proofs.Ytdnacfnmaieeiaa.Print
open Go.RowKit Go.Proofs.YtdnacfnmaieeiaaW.PrintWords Go.Proofs.YtdnacfnmaieeiaaO.Opn Go.Proofs.YtdnacfnmaieeiaaO.Kit

theorem index_ev (L : List ByteArray) (s : ByteArray) (hL : L.length ≤ 9223372036854775806) : ∀ (n i : Nat), i + n = L.length → ∃ r : Int, Ev (fun k => slices_Index_string_string.l0 k L s (L.length : Int) i) r ∧ (0 ≤ r ↔ s ∈ L.drop i) := by
  intro n
  induction n with
  | zero =>
    intro i hi
    refine ⟨-1, ev_succ ?_, ?_⟩
    · simp only [slices_Index_string_string.l0]
      exact ev_neg (by omega) (Ev.now _)
    · rw [List.drop_of_length_le (by omega)]
      simp
  | succ n ih =>
    intro i hi
    have hlt : i < L.length := by omega
    have hd := List.drop_eq_getElem_cons hlt
    by_cases he : s = L[i]
    · refine ⟨i, ev_succ ?_, ?_⟩
      · simp only [slices_Index_string_string.l0]
        refine ev_pos (by omega) (ev_pos (by omega) (ev_pos (by omega) (ev_pos ?_ (Ev.now _))))
        rw [toList_inj, rdOf_drop (i := (i : Int)) hd]
        exact he
      · rw [hd, ← he]
        simp
    · obtain ⟨r, h1, h2⟩ := ih (i + 1) (by omega)
      refine ⟨r, ev_succ ?_, ?_⟩
      · simp only [slices_Index_string_string.l0]
        refine ev_pos (by omega) (ev_pos (by omega) (ev_pos (by omega) (ev_neg ?_ ?_)))
        · rw [toList_inj, rdOf_drop (i := (i : Int)) hd]
          exact he
        · rw [w1 (by omega) (by omega)]
          exact h1
      · rw [h2, hd, List.mem_cons]
        simp [he]
def hasT (L : List ByteArray) (s : ByteArray) : Bool := L.any (fun x => decide (x = s))
theorem hasT_iff {L : List ByteArray} {s : ByteArray} : hasT L s = true ↔ s ∈ L := by simp [hasT]
theorem hasT_cons (x : ByteArray) (L : List ByteArray) (s : ByteArray) : hasT (x :: L) s = (decide (x = s) || hasT L s) := rfl
theorem contains_ev (L : List ByteArray) (s : ByteArray) (hL : L.length ≤ 9223372036854775806) : Ev (fun k => slices_Contains_string_string.f k L s) (hasT L s) := by
  obtain ⟨r, h1, h2⟩ := index_ev L s hL L.length 0 (by omega)
  unfold slices_Contains_string_string.f slices_Index_string_string.f
  refine Ev.bind h1 (ev_now ?_)
  rw [List.drop_zero, ← hasT_iff] at h2
  rw [Bool.eq_iff_iff, decide_eq_true_iff]
  exact h2
/-- A text at the end, unless it is there. -/
def addT (l : List ByteArray) (s : ByteArray) : List ByteArray := if hasT l s = true then l else l ++ [s]
theorem addT_len (l : List ByteArray) (s : ByteArray) : (addT l s).length ≤ l.length + 1 := by
  unfold addT
  split <;> simp
theorem add_ev (l : List ByteArray) (s : ByteArray) (h : l.length < 8796093022208) : Ev (fun k => apply_add.f k l s) (addT l s) := by
  unfold apply_add.f addT
  refine Ev.bind (contains_ev l s (by omega)) ?_
  exact ev_ite' (fun _ => Ev.now _) (fun _ => ev_pos h (Ev.now _))
theorem has_ev (L : List ByteArray) (s : ByteArray) (hL : L.length ≤ 9223372036854775806) : Ev (fun k => posthouseref5_Has.f k L s) (hasT L s) := by
  have key : ∀ (n i : Nat), i + n = L.length → Ev (fun k => posthouseref5_Has.l0 k L s i) (hasT (L.drop i) s) := by
    intro n
    induction n with
    | zero =>
      intro i hi
      refine ev_succ ?_
      simp only [posthouseref5_Has.l0]
      refine ev_neg (by omega) (ev_now ?_)
      rw [List.drop_of_length_le (by omega)]
      rfl
    | succ n ih =>
      intro i hi
      have hlt : i < L.length := by omega
      have hd := List.drop_eq_getElem_cons hlt
      refine ev_succ ?_
      simp only [posthouseref5_Has.l0, toList_inj, rdOf_drop (d := ByteArray.empty) (i := (i : Int)) hd]
      refine ev_pos (by omega) (ev_pos (by omega) ?_)
      by_cases he : L[i] = s
      · refine ev_pos he (ev_now ?_)
        rw [hd, hasT_cons]
        simp [he]
      · refine ev_neg he ?_
        rw [w1 (by omega) (by omega)]
        refine ev_eq (ih (i + 1) (by omega)) ?_
        rw [hd, hasT_cons]
        simp [he]
  have := key L.length 0 (by omega)
  unfold posthouseref5_Has.f
  simpa using this
theorem texts_ev (L M : List ByteArray) (hL : L.length ≤ 9223372036854775806) : Ev (fun k => posthouseref5_SameTexts.f k L M) (decide (L = M)) := by
  unfold posthouseref5_SameTexts.f
  by_cases hlen : L.length = M.length
  · have key : ∀ (n i : Nat), i + n = L.length → Ev (fun k => posthouseref5_SameTexts.l0 k L M i) (decide (L.drop i = M.drop i)) := by
      intro n
      induction n with
      | zero =>
        intro i hi
        refine ev_succ ?_
        simp only [posthouseref5_SameTexts.l0]
        refine ev_neg (by omega) (ev_now ?_)
        rw [List.drop_of_length_le (by omega), List.drop_of_length_le (by omega)]
        simp
      | succ n ih =>
        intro i hi
        have hlt : i < L.length := by omega
        have hlt' : i < M.length := by omega
        have hd := List.drop_eq_getElem_cons hlt
        have hd' := List.drop_eq_getElem_cons hlt'
        refine ev_succ ?_
        simp only [posthouseref5_SameTexts.l0, toList_inj, rdOf_drop (d := ByteArray.empty) (i := (i : Int)) hd, rdOf_drop (d := ByteArray.empty) (i := (i : Int)) hd']
        refine ev_pos (by omega) (ev_pos (by omega) (ev_pos (by omega) ?_))
        by_cases he : L[i] = M[i]
        · refine ev_pos he ?_
          rw [w1 (by omega) (by omega)]
          refine ev_eq (ih (i + 1) (by omega)) ?_
          rw [hd, hd', he]
          simp only [List.cons.injEq, true_and]
        · refine ev_neg he (ev_now ?_)
          rw [hd, hd']
          simp only [List.cons.injEq, he, false_and, decide_false]
    refine ev_pos (by omega) ?_
    simpa using key L.length 0 (by omega)
  · refine ev_neg (by omega) (ev_now ?_)
    have : ¬ L = M := fun h => hlen (by rw [h])
    simp [this]
abbrev Eff : Type := List ByteArray × List ByteArray × List ByteArray × List ByteArray × Int × Int × Int
def bad (c i : Int) : Eff := ([], [], [], [], 0, c, i)
def inbox : ByteArray := (⟨#[105, 110, 98, 111, 120]⟩ : ByteArray)
def orI (f n : Int) : Int := Go.bits .or .i64 f n
/-- What actions lead to, from the i-th on. -/
def effs : List S35 → Int → List ByteArray → List ByteArray → List ByteArray → List ByteArray → Int → Eff
  | [], _, b, a, r, p, f => (b, a, r, p, f, 0, 0)
  | x :: l, i, b, a, r, p, f =>
    if (x.f1.size : Int) > 4000 then bad 1 i
    else if x.f0 = 1 then effs l (i + 1) (addT b inbox) a r p f
    else if x.f0 = 2 then effs l (i + 1) (addT b x.f1) a r p f
    else if x.f0 = 3 then effs l (i + 1) b a r p f
    else if x.f0 = 4 then effs l (i + 1) b (addT a x.f1) r p f
    else if x.f0 = 5 then effs l (i + 1) b a (addT r x.f1) p f
    else if x.f0 = 6 then (if x.f2 < 0 then bad 3 i else if x.f2 > 63 then bad 3 i else effs l (i + 1) b a r p (orI f x.f2))
    else if x.f0 = 7 then effs l (i + 1) b a r (addT p x.f1) f
    else bad 4 i
def effects (l : List S35) : Eff := if (l.length : Int) > 300 then bad 2 (-1) else effs l 0 [] [] [] [] 0
theorem effs_ev (L : List S35) (hL : L.length ≤ 300) : ∀ (l : List S35) (i : Nat), L.drop i = l → ∀ (b a r p : List ByteArray) (f : Int), b.length ≤ i → a.length ≤ i → r.length ≤ i → p.length ≤ i →
    Ev (fun k => apply_Effects.l0 k L (L.length : Int) i b a r p f) (effs l i b a r p f) := by
  intro l
  induction l with
  | nil =>
    intro i hd b a r p f hb ha hr hp
    have := drop_ge hd
    refine ev_succ ?_
    simp only [apply_Effects.l0, effs]
    exact ev_neg (by omega) (Ev.now _)
  | cons x l ih =>
    intro i hd b a r p f hb ha hr hp
    have hlt := drop_lt hd
    have hx : rd_T35 L i = x := getD_drop (i := (i : Int).toNat) hd
    have hd' := drop_step hd
    refine ev_succ ?_
    simp only [apply_Effects.l0, effs, hx, w1 (show (0 : Int) ≤ i by omega) (show (i : Int) < 9223372036854775807 by omega)]
    refine ev_pos (by omega) (ev_pos (by omega) (ev_pos (by omega) ?_))
    have e1 : ((i : Int) + 1) = ((i + 1 : Nat) : Int) := by omega
    have tl : ∀ l s, (addT l s).length ≤ l.length + 1 := addT_len
    refine ev_ite' (fun _ => Ev.now _) fun _ => ?_
    refine ev_ite' (fun _ => Ev.bind (add_ev _ _ (by omega)) ?_) fun _ => ?_
    · rw [e1]; exact ih (i + 1) hd' _ _ _ _ _ (by have := tl b inbox; unfold inbox at this; omega) (by omega) (by omega) (by omega)
    refine ev_ite' (fun _ => Ev.bind (add_ev _ _ (by omega)) ?_) fun _ => ?_
    · rw [e1]; exact ih (i + 1) hd' _ _ _ _ _ (by have := tl b x.f1; omega) (by omega) (by omega) (by omega)
    refine ev_ite' (fun _ => ?_) fun _ => ?_
    · rw [e1]; exact ih (i + 1) hd' _ _ _ _ _ (by omega) (by omega) (by omega) (by omega)
    refine ev_ite' (fun _ => Ev.bind (add_ev _ _ (by omega)) ?_) fun _ => ?_
    · rw [e1]; exact ih (i + 1) hd' _ _ _ _ _ (by omega) (by have := tl a x.f1; omega) (by omega) (by omega)
    refine ev_ite' (fun _ => Ev.bind (add_ev _ _ (by omega)) ?_) fun _ => ?_
    · rw [e1]; exact ih (i + 1) hd' _ _ _ _ _ (by omega) (by omega) (by have := tl r x.f1; omega) (by omega)
    refine ev_ite' (fun _ => ?_) fun _ => ?_
    · refine ev_ite' (fun _ => Ev.now _) fun _ => ?_
      refine ev_ite' (fun _ => Ev.now _) fun _ => ?_
      rw [e1]; exact ih (i + 1) hd' _ _ _ _ _ (by omega) (by omega) (by omega) (by omega)
    refine ev_ite' (fun _ => Ev.bind (add_ev _ _ (by omega)) ?_) fun _ => Ev.now _
    rw [e1]; exact ih (i + 1) hd' _ _ _ _ _ (by omega) (by omega) (by omega) (by have := tl p x.f1; omega)
theorem effects_ev (L : List S35) : Ev (fun k => apply_Effects.f k L) (effects L) := by
  unfold apply_Effects.f effects
  refine ev_ite' (fun _ => Ev.now _) fun h => ?_
  exact effs_ev L (by omega) L 0 (by simp) [] [] [] [] 0 (by simp) (by simp) (by simp) (by simp)
theorem same_ev (b a r p : List ByteArray) (f : Int) (b' a' r' p' : List ByteArray) (f' : Int) (h1 : b.length ≤ 1000) (h2 : a.length ≤ 1000) (h3 : r.length ≤ 1000) (h4 : p.length ≤ 1000) :
    Ev (fun k => posthouseref6_SameEffect.f k b a r p f b' a' r' p' f') (decide (b = b' ∧ a = a' ∧ r = r' ∧ p = p' ∧ f = f')) := by
  unfold posthouseref6_SameEffect.f
  refine Ev.bind (texts_ev _ _ (by omega)) ?_
  by_cases e1 : b = b'
  · refine ev_pos (by simpa using e1) (Ev.bind (texts_ev _ _ (by omega)) ?_)
    by_cases e2 : a = a'
    · refine ev_pos (by simpa using e2) (Ev.bind (texts_ev _ _ (by omega)) ?_)
      by_cases e3 : r = r'
      · refine ev_pos (by simpa using e3) (Ev.bind (texts_ev _ _ (by omega)) ?_)
        by_cases e4 : p = p'
        · refine ev_pos (by simpa using e4) (ev_now ?_)
          simp [e1, e2, e3, e4, Bool.beq_eq_decide_eq]
        · exact ev_neg (by simpa using e4) (ev_now (by simp [e4]))
      · exact ev_neg (by simpa using e3) (ev_now (by simp [e3]))
    · exact ev_neg (by simpa using e2) (ev_now (by simp [e2]))
  · exact ev_neg (by simpa using e1) (ev_now (by simp [e1]))
theorem applied_ev : Ev (fun k => posthouselaw6_applied.f k) true := by
  unfold posthouselaw6_applied.f
  refine Ev.bind (effects_ev _) ?_
  have e : effects [(⟨1, (⟨#[]⟩ : ByteArray), 0⟩ : S35), (⟨6, (⟨#[]⟩ : ByteArray), 3⟩ : S35), (⟨1, (⟨#[]⟩ : ByteArray), 0⟩ : S35)] = ([inbox], [], [], [], 3, 0, 0) := by decide +kernel
  rw [e]
  refine ev_pos rfl (Ev.bind (same_ev _ _ _ _ _ _ _ _ _ _ (by simp) (by simp) (by simp) (by simp)) (ev_now ?_))
  simp [inbox]
/-- The lists are no longer than there are actions. -/
theorem effs_len : ∀ (l : List S35) (i : Int) (b a r p : List ByteArray) (f : Int) (m : Nat), b.length ≤ m → a.length ≤ m → r.length ≤ m → p.length ≤ m →
    (effs l i b a r p f).1.length ≤ m + l.length ∧ (effs l i b a r p f).2.1.length ≤ m + l.length ∧ (effs l i b a r p f).2.2.1.length ≤ m + l.length ∧ (effs l i b a r p f).2.2.2.1.length ≤ m + l.length := by
  intro l
  induction l with
  | nil => intro i b a r p f m h1 h2 h3 h4; exact ⟨h1, h2, h3, h4⟩
  | cons x l ih =>
    intro i b a r p f m h1 h2 h3 h4
    have tl := addT_len
    have hb : ∀ c j, (bad c j).1.length ≤ m + (x :: l).length ∧ (bad c j).2.1.length ≤ m + (x :: l).length ∧ (bad c j).2.2.1.length ≤ m + (x :: l).length ∧ (bad c j).2.2.2.1.length ≤ m + (x :: l).length := fun c j => by simp [bad]
    have go : ∀ (b a r p : List ByteArray) (f : Int), b.length ≤ m + 1 → a.length ≤ m + 1 → r.length ≤ m + 1 → p.length ≤ m + 1 →
        (effs l (i + 1) b a r p f).1.length ≤ m + (x :: l).length ∧ (effs l (i + 1) b a r p f).2.1.length ≤ m + (x :: l).length ∧ (effs l (i + 1) b a r p f).2.2.1.length ≤ m + (x :: l).length ∧ (effs l (i + 1) b a r p f).2.2.2.1.length ≤ m + (x :: l).length := by
      intro b a r p f h1 h2 h3 h4
      have := ih (i + 1) b a r p f (m + 1) h1 h2 h3 h4
      simp only [List.length_cons]
      omega
    simp only [effs]
    have t1 := tl b inbox
    have t2 := tl b x.f1
    have t3 := tl a x.f1
    have t4 := tl r x.f1
    have t5 := tl p x.f1
    by_cases c0 : (x.f1.size : Int) > 4000
    · rw [if_pos c0]; exact hb _ _
    rw [if_neg c0]
    by_cases c1 : x.f0 = 1
    · rw [if_pos c1]; exact go _ _ _ _ _ (by omega) (by omega) (by omega) (by omega)
    rw [if_neg c1]
    by_cases c2 : x.f0 = 2
    · rw [if_pos c2]; exact go _ _ _ _ _ (by omega) (by omega) (by omega) (by omega)
    rw [if_neg c2]
    by_cases c3 : x.f0 = 3
    · rw [if_pos c3]; exact go _ _ _ _ _ (by omega) (by omega) (by omega) (by omega)
    rw [if_neg c3]
    by_cases c4 : x.f0 = 4
    · rw [if_pos c4]; exact go _ _ _ _ _ (by omega) (by omega) (by omega) (by omega)
    rw [if_neg c4]
    by_cases c5 : x.f0 = 5
    · rw [if_pos c5]; exact go _ _ _ _ _ (by omega) (by omega) (by omega) (by omega)
    rw [if_neg c5]
    by_cases c6 : x.f0 = 6
    · rw [if_pos c6]
      by_cases d1 : x.f2 < 0
      · rw [if_pos d1]; exact hb _ _
      rw [if_neg d1]
      by_cases d2 : x.f2 > 63
      · rw [if_pos d2]; exact hb _ _
      rw [if_neg d2]
      exact go _ _ _ _ _ (by omega) (by omega) (by omega) (by omega)
    rw [if_neg c6]
    by_cases c7 : x.f0 = 7
    · rw [if_pos c7]; exact go _ _ _ _ _ (by omega) (by omega) (by omega) (by omega)
    rw [if_neg c7]
    exact hb _ _
theorem effects_len (l : List S35) : (effects l).1.length ≤ 300 ∧ (effects l).2.1.length ≤ 300 ∧ (effects l).2.2.1.length ≤ 300 ∧ (effects l).2.2.2.1.length ≤ 300 := by
  unfold effects
  by_cases h : (l.length : Int) > 300
  · rw [if_pos h]; simp [bad]
  · rw [if_neg h]
    have := effs_len l 0 [] [] [] [] 0 0 (by simp) (by simp) (by simp) (by simp)
    omega
end Go.Proofs.Ytdnacfnmaieeiaa.Print
