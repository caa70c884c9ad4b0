/- The functions of the package patterns in plain words: bytes without regard to case, the parts of a pattern, the faults. -/
import Derived.Test.YtdnacfnmaieeiaaKit
import Derived.Test.YtdnacfnmaieeiaaFpatternsCheck
import Derived.Test.YtdnacfnmaieeiaaFpatternscontains
import Derived.Test.YtdnacfnmaieeiaaFposthouseref6PatternFault
import Derived.Test.YtdnacfnmaieeiaaFposthouseref6alike
import Derived.Test.YtdnacfnmaieeiaaFposthouseref5Alike
set_option linter.unusedSimpArgs false
set_option linter.unusedVariables false
namespace Go.Proofs.Ytdnacfnmaieeiaa.Print
open Go.RowKit Go.Proofs.YtdnacfnmaieeiaaW.PrintWords Go.Proofs.YtdnacfnmaieeiaaO.Kit
/-! texts as lists of numbers -/
def chars (b : ByteArray) : List Int := b.data.toList.map fun u => (u.toNat : Int)
theorem chars_len (b : ByteArray) : (chars b).length = b.size := by simp [chars]
theorem chars_get (b : ByteArray) (i : Nat) (h : i < b.size) : (chars b)[i]'(by rw [chars_len]; exact h) = bt b i := by
  unfold bt
  have h' : (i : Int).toNat < b.size := by simpa using h
  rw [dif_pos h']
  simp [chars]
  rfl
theorem chars_inj {a b : ByteArray} (h : chars a = chars b) : a = b := by
  apply ByteArray.ext
  apply Array.ext'
  unfold chars at h
  have hf : ∀ x y : UInt8, ((x.toNat : Int) = (y.toNat : Int)) → x = y := fun x y hxy => UInt8.toNat_inj.1 (by omega)
  exact List.map_inj_right hf |>.1 h
theorem chars_byte (b : ByteArray) : ∀ c ∈ chars b, 0 ≤ c ∧ c ≤ 255 := by
  intro c hc
  obtain ⟨u, _, rfl⟩ := List.mem_map.1 hc
  have := u.toNat_lt
  omega
theorem chars_extract (b : ByteArray) (i j : Nat) : chars (b.extract i j) = ((chars b).take j).drop i := by
  simp [chars, ByteArray.data_extract, List.map_take, List.map_drop, List.drop_take]
theorem chars_append (a b : ByteArray) : chars (a ++ b) = chars a ++ chars b := by simp [chars, ByteArray.data_append]
theorem chars_drop (b : ByteArray) (i : Nat) (h : i < b.size) : (chars b).drop i = bt b i :: (chars b).drop (i + 1) := by
  rw [List.drop_eq_getElem_cons (by rw [chars_len]; exact h), chars_get b i h]
theorem toList_nil {a : ByteArray} : a.toList = ([] : List UInt8) ↔ chars a = [] := by
  rw [toList_data]
  simp [chars]
/-! case -/
def low (a : Int) : Int := if 65 ≤ a ∧ a ≤ 90 then a + 32 else a
theorem low_low (a : Int) : low (low a) = low a := by
  unfold low
  by_cases h : 65 ≤ a ∧ a ≤ 90
  · rw [if_pos h, if_neg (by omega)]
  · rw [if_neg h, if_neg h]
theorem same1_some (a : Int) : patterns_same_1.f a = some (low a) := by
  unfold patterns_same_1.f low
  by_cases h : a ≥ 65
  · rw [if_pos h]
    by_cases h' : a ≤ 90
    · rw [if_pos h', if_pos (by omega)]
      congr 1
      omega
    · rw [if_neg h', if_neg (by omega)]
  · rw [if_neg h, if_neg (by omega)]
theorem same_some (a b : Int) : patterns_same.f a b = some (decide (low a = low b)) := by
  unfold patterns_same.f
  rw [same1_some, same1_some]
  simp [Bool.beq_eq_decide_eq]
theorem in_some (a b c : Int) : posthouseref5_In.f a b c = some (decide (b ≤ a ∧ a ≤ c)) := by
  unfold posthouseref5_In.f
  by_cases h : b ≤ a
  · rw [if_pos h]; simp [h]
  · rw [if_neg h]; simp [h]
theorem low_some (a : Int) (h0 : 0 ≤ a) (h1 : a ≤ 255) : posthouseref5_Low.f a = some (low a) := by
  unfold posthouseref5_Low.f low
  rw [in_some, wid (by omega) (by omega)]
  simp only [Option.bind_some, decide_eq_true_eq]
  split
  · congr 1
    omega
  · rfl
theorem alike_some (a b : Int) (h0 : 0 ≤ a) (h1 : a ≤ 255) (g0 : 0 ≤ b) (g1 : b ≤ 255) : posthouseref6_alike.f a b = some (decide (low a = low b)) := by
  unfold posthouseref6_alike.f
  rw [low_some a h0 h1, low_some b g0 g1]
  simp [Bool.beq_eq_decide_eq]
/-- Equal without regard to case. -/
def eqL (a b : List Int) : Bool := decide (a.map low = b.map low)
theorem eqL_cons (a b : Int) (r s : List Int) : eqL (a :: r) (b :: s) = (decide (low a = low b) && eqL r s) := by
  unfold eqL
  by_cases h : low a = low b <;> simp [h]
theorem equal_ev (a b : ByteArray) (ha : a.size ≤ 9223372036854775806) : Ev (fun k => patterns_equal.f k a b) (eqL (chars a) (chars b)) := by
  have key : ∀ (n i : Nat), i + n = a.size → i ≤ b.size → Ev (fun k => patterns_equal.l0 k a b (a.size : Int) i) (eqL ((chars a).drop i) ((chars b).drop i)) := by
    intro n
    induction n with
    | zero =>
      intro i hi hb
      refine ev_succ ?_
      simp only [patterns_equal.l0]
      refine ev_neg (by omega) (ev_now ?_)
      rw [List.drop_of_length_le (show (chars a).length ≤ i by rw [chars_len]; omega)]
      have hl : ((chars b).drop i).length = b.size - i := by rw [List.length_drop, chars_len]
      unfold eqL
      by_cases h : b.size = i
      · rw [List.drop_of_length_le (show (chars b).length ≤ i by rw [chars_len]; omega)]
        have h2 : (a.size : Int) = (b.size : Int) := by omega
        simp [h2]
      · have : (chars b).drop i ≠ [] := by
          intro e
          rw [e] at hl
          have h3 : b.size - i ≠ 0 := by omega
          exact h3 hl.symm
        have h2 : ¬ ((a.size : Int) = (b.size : Int)) := by omega
        rw [decide_eq_false (show ¬ List.map low [] = List.map low ((chars b).drop i) from fun e => this (by simpa using e.symm)), beq_eq_false_iff_ne.2 h2]
    | succ n ih =>
      intro i hi hb
      refine ev_succ ?_
      simp only [patterns_equal.l0, same_some, Option.bind_some]
      refine ev_pos (by omega) ?_
      by_cases h : (i : Int) ≥ (b.size : Int)
      · refine ev_pos h (ev_now ?_)
        rw [List.drop_of_length_le (show (chars b).length ≤ i by rw [chars_len]; omega), chars_drop a i (by omega)]
        simp [eqL]
      · refine ev_neg h (ev_pos (by omega) (ev_pos (by omega) (ev_pos (by omega) ?_)))
        rw [chars_drop a i (by omega), chars_drop b i (by omega), eqL_cons]
        by_cases hc : low (bt a i) = low (bt b i)
        · refine ev_pos (by simpa using hc) ?_
          rw [w1 (by omega) (by omega)]
          refine ev_eq (ih (i + 1) (by omega) (by omega)) ?_
          simp [hc]
        · refine ev_neg (by simpa using hc) (ev_now ?_)
          simp [hc]
  have := key a.size 0 (by omega) (by omega)
  unfold patterns_equal.f
  simpa using this
theorem alikeT_ev (a b : ByteArray) (ha : a.size ≤ 9223372036854775806) : Ev (fun k => posthouseref5_Alike.f k a b) (eqL (chars a) (chars b)) := by
  unfold posthouseref5_Alike.f
  by_cases hs : a.size = b.size
  · have key : ∀ (n i : Nat), i + n = a.size → Ev (fun k => posthouseref5_Alike.l0 k a b i) (eqL ((chars a).drop i) ((chars b).drop i)) := by
      intro n
      induction n with
      | zero =>
        intro i hi
        refine ev_succ ?_
        simp only [posthouseref5_Alike.l0]
        refine ev_neg (by omega) (ev_now ?_)
        rw [List.drop_of_length_le (show (chars a).length ≤ i by rw [chars_len]; omega), List.drop_of_length_le (show (chars b).length ≤ i by rw [chars_len]; omega)]
        rfl
      | succ n ih =>
        intro i hi
        have r1 := bt_range a i
        have r2 := bt_range b i
        refine ev_succ ?_
        simp only [posthouseref5_Alike.l0, low_some _ r1.1 r1.2, low_some _ r2.1 r2.2, Option.bind_some]
        refine ev_pos (by omega) (ev_pos (by omega) (ev_pos (by omega) ?_))
        rw [chars_drop a i (by omega), chars_drop b i (by omega), eqL_cons]
        by_cases hc : low (bt a i) = low (bt b i)
        · refine ev_pos hc ?_
          rw [w1 (by omega) (by omega)]
          refine ev_eq (ih (i + 1) (by omega)) ?_
          simp [hc]
        · refine ev_neg hc (ev_now ?_)
          simp [hc]
    refine ev_pos (by omega) ?_
    simpa using key a.size 0 (by omega)
  · refine ev_neg (by omega) (ev_now ?_)
    unfold eqL
    have : ¬ (chars a).map low = (chars b).map low := by
      intro e
      have := congrArg List.length e
      simp [chars_len] at this
      exact hs this
    simp [this]
/-- Does b occur in a, from some place on. -/
def hasL (b : List Int) : List Int → Bool
  | [] => eqL [] b
  | c :: r => eqL ((c :: r).take b.length) b || hasL b r
theorem hasL_short {b : List Int} : ∀ {a : List Int}, a.length < b.length → hasL b a = false
  | [], h => by
    unfold hasL eqL
    have : b ≠ [] := by rintro rfl; simp at h
    simp [this]
  | c :: r, h => by
    unfold hasL
    rw [hasL_short (by simp at h; omega), List.take_of_length_le (by omega)]
    unfold eqL
    have : ¬ (c :: r).map low = b.map low := by
      intro e
      have := congrArg List.length e
      simp at this h
      omega
    rw [decide_eq_false this]
    rfl
theorem pcontains_ev (a b : ByteArray) (ha : a.size ≤ 140737488355328) (hb : b.size ≤ 140737488355328) : Ev (fun k => patterns_contains.f k a b) (hasL (chars b) (chars a)) := by
  have key : ∀ (n i : Nat), i + n = a.size + 1 → Ev (fun k => patterns_contains.l0 k a b i) (if i ≤ a.size then hasL (chars b) ((chars a).drop i) else false) := by
    intro n
    induction n with
    | zero =>
      intro i hi
      refine ev_succ ?_
      simp only [patterns_contains.l0, wid (show -9223372036854775808 ≤ (i : Int) + b.size by omega) (by omega)]
      refine ev_neg (by omega) (ev_now ?_)
      rw [if_neg (by omega)]
    | succ n ih =>
      intro i hi
      refine ev_succ ?_
      simp only [patterns_contains.l0, wid (show -9223372036854775808 ≤ (i : Int) + b.size by omega) (by omega)]
      rw [if_pos (by omega)]
      by_cases h : (i : Int) + b.size ≤ a.size
      · refine ev_pos h (ev_pos (by omega) (ev_pos (by omega) ?_))
        refine Ev.bind (equal_ev _ b (by simp; omega)) ?_
        rw [chars_extract]
        have e1 : ((i : Int) + (b.size : Int)).toNat = i + b.size := by omega
        have e2 : (i : Int).toNat = i := by omega
        rw [e1, e2]
        have e3 : ((chars a).take (i + b.size)).drop i = ((chars a).drop i).take (chars b).length := by
          rw [List.drop_take, chars_len]
          congr 1
          omega
        rw [e3, w1 (by omega) (by omega)]
        have hn := ih (i + 1) (by omega)
        rcases hq : (chars a).drop i with _ | ⟨c, r⟩
        · have hi' : a.size ≤ i := by
            have := drop_ge hq
            rwa [chars_len] at this
          rw [if_neg (by omega)] at hn
          show Ev _ (eqL [] (chars b))
          rw [List.take_nil]
          by_cases hc : eqL [] (chars b) = true
          · refine ev_pos hc (ev_now hc.symm)
          · refine ev_neg hc (ev_eq hn ?_)
            simpa using hc
        · have hi' := drop_lt hq
          rw [chars_len] at hi'
          rw [if_pos (by omega), drop_step hq] at hn
          show Ev _ (eqL ((c :: r).take (chars b).length) (chars b) || hasL (chars b) r)
          by_cases hc : eqL ((c :: r).take (chars b).length) (chars b) = true
          · refine ev_pos hc (ev_now ?_)
            rw [hc]
            rfl
          · refine ev_neg hc (ev_eq hn ?_)
            simp only [Bool.not_eq_true] at hc
            rw [hc]
            simp
      · refine ev_neg h (ev_now ?_)
        rw [hasL_short]
        rw [List.length_drop, chars_len, chars_len]
        omega
  have := key (a.size + 1) 0 (by omega)
  unfold patterns_contains.f
  simpa using this
/-! the parts of a pattern -/
/-- The parts; none: it ends with a backslash. -/
def pc : List Int → Option (List S56)
  | [] => some []
  | [c] => if c = 42 ∨ c = 63 then some [⟨c, 0⟩] else if c = 92 then none else some [⟨0, c⟩]
  | c :: d :: r => if c = 42 ∨ c = 63 then (pc (d :: r)).map (⟨c, 0⟩ :: ·) else if c = 92 then (pc r).map (⟨0, d⟩ :: ·) else (pc (d :: r)).map (⟨0, c⟩ :: ·)
theorem pc_nil : pc [] = some [] := rfl
theorem pc_two (c d : Int) (r : List Int) : pc (c :: d :: r) = if c = 42 ∨ c = 63 then (pc (d :: r)).map (⟨c, 0⟩ :: ·) else if c = 92 then (pc r).map (⟨0, d⟩ :: ·) else (pc (d :: r)).map (⟨0, c⟩ :: ·) := by
  rw [pc]
theorem pc_star {c : Int} {r : List Int} (h : c = 42 ∨ c = 63) : pc (c :: r) = (pc r).map (⟨c, 0⟩ :: ·) := by
  cases r with
  | nil => unfold pc; rw [if_pos h]; rfl
  | cons d r => rw [pc_two, if_pos h]
theorem pc_lit {c : Int} {r : List Int} (h : ¬ (c = 42 ∨ c = 63)) (h2 : ¬ c = 92) : pc (c :: r) = (pc r).map (⟨0, c⟩ :: ·) := by
  cases r with
  | nil => unfold pc; rw [if_neg h, if_neg h2]; rfl
  | cons d r => rw [pc_two, if_neg h, if_neg h2]
theorem pc_end : pc [92] = none := rfl
theorem pc_esc {d : Int} {r : List Int} : pc (92 :: d :: r) = (pc r).map (⟨0, d⟩ :: ·) := by
  rw [pc_two, if_neg (by omega), if_pos rfl]
def pcRes (acc : List S56) : Option (List S56) → List S56 × Bool
  | some l => (acc ++ l, true)
  | none => ([], false)
theorem pc_len : ∀ (n : Nat) (s : List Int), s.length ≤ n → ∀ l, pc s = some l → l.length ≤ s.length := by
  intro n
  induction n with
  | zero =>
    intro s hs l h
    obtain rfl : s = [] := List.length_eq_zero_iff.1 (by omega)
    obtain rfl := Option.some.inj h
    simp
  | succ n ih =>
    intro s hs l h
    match s with
    | [] =>
      obtain rfl := Option.some.inj h
      simp
    | c :: r =>
      simp only [List.length_cons] at hs ⊢
      by_cases h1 : c = 42 ∨ c = 63
      · rw [pc_star h1] at h
        obtain ⟨m, hm, rfl⟩ := Option.map_eq_some_iff.1 h
        have := ih r (by omega) m hm
        simp; omega
      · by_cases h2 : c = 92
        · subst h2
          match r with
          | [] => cases h
          | d :: r' =>
            rw [pc_esc] at h
            obtain ⟨m, hm, rfl⟩ := Option.map_eq_some_iff.1 h
            have := ih r' (by simp at hs; omega) m hm
            simp; omega
        · rw [pc_lit h1 h2] at h
          obtain ⟨m, hm, rfl⟩ := Option.map_eq_some_iff.1 h
          have := ih r (by omega) m hm
          simp; omega
theorem pieces_ev (p : ByteArray) (hp : p.size ≤ 200) : Ev (fun k => patterns_pieces.f k p) (pcRes [] (pc (chars p))) := by
  have key : ∀ (n i : Nat), p.size - i ≤ n → i ≤ p.size → ∀ acc : List S56, acc.length ≤ i → Ev (fun k => patterns_pieces.l0 k p acc i) (pcRes acc (pc ((chars p).drop i))) := by
    intro n
    induction n with
    | zero =>
      intro i hi hip acc hacc
      refine ev_succ ?_
      simp only [patterns_pieces.l0]
      refine ev_neg (by omega) (ev_now ?_)
      rw [List.drop_of_length_le (by rw [chars_len]; omega), pc_nil]
      simp [pcRes]
    | succ n ih =>
      intro i hi hip acc hacc
      by_cases hlt : i < p.size
      · have hd := chars_drop p i hlt
        refine ev_succ ?_
        simp only [patterns_pieces.l0]
        refine ev_pos (by omega) (ev_pos (by omega) ?_)
        have hr := bt_range p i
        have e1 : ((i : Int) + 1) = ((i + 1 : Nat) : Int) := by omega
        have hgo : ∀ b : Bool, (b = true ↔ bt p i = 42 ∨ bt p i = 63) → Ev (fun k => patterns_pieces.j1 k p acc i (bt p i) (bt p i) b) (pcRes acc (pc ((chars p).drop i))) := by
          intro b hb
          refine ev_succ ?_
          simp only [patterns_pieces.j1, w1 (show (0 : Int) ≤ i by omega) (by omega), w1 (show (0 : Int) ≤ (i : Int) + 1 by omega) (by omega)]
          rw [hd]
          by_cases h1 : bt p i = 42 ∨ bt p i = 63
          · rw [pc_star h1]
            refine ev_pos (hb.2 h1) (ev_pos (by omega) ?_)
            rw [e1]
            refine ev_eq (ih (i + 1) (by omega) (by omega) _ (by simp; omega)) ?_
            cases pc ((chars p).drop (i + 1)) <;> simp [pcRes]
          · refine ev_neg (fun h => h1 (hb.1 h)) ?_
            by_cases h2 : bt p i = 92
            · refine ev_pos h2 ?_
              rw [h2]
              by_cases h3 : (i : Int) + 1 = (p.size : Int)
              · refine ev_pos h3 (ev_now ?_)
                rw [List.drop_of_length_le (show (chars p).length ≤ i + 1 by rw [chars_len]; omega)]
                rfl
              · refine ev_neg h3 (ev_pos (by omega) (ev_pos (by omega) (ev_pos (by omega) ?_)))
                have hd2 := chars_drop p (i + 1) (by omega)
                have e2 : ((i : Int) + 1 + 1) = ((i + 1 + 1 : Nat) : Int) := by omega
                rw [hd2, e2, pc_esc]
                refine ev_eq (ih (i + 1 + 1) (by omega) (by omega) _ (by simp; omega)) ?_
                rw [e1]
                cases pc ((chars p).drop (i + 1 + 1)) <;> simp [pcRes]
            · rw [pc_lit h1 h2]
              refine ev_neg h2 (ev_pos (by omega) ?_)
              rw [e1]
              refine ev_eq (ih (i + 1) (by omega) (by omega) _ (by simp; omega)) ?_
              cases pc ((chars p).drop (i + 1)) <;> simp [pcRes]
        refine ev_ite (fun h => hgo _ (by simp [h])) (fun h => hgo _ (by simp [h]))
      · refine ev_succ ?_
        simp only [patterns_pieces.l0]
        refine ev_neg (by omega) (ev_now ?_)
        rw [List.drop_of_length_le (by rw [chars_len]; omega), pc_nil]
        simp [pcRes]
  have := key p.size 0 (by omega) (by omega) [] (by simp)
  unfold patterns_pieces.f
  simpa using this
/-! backslashes at the end -/
def tb : List Int → Nat
  | [] => 0
  | x :: l => if tb l = l.length then (if x = 92 then l.length + 1 else l.length) else tb l
theorem tb_cons (x : Int) (l : List Int) : tb (x :: l) = if tb l = l.length then (if x = 92 then l.length + 1 else l.length) else tb l := rfl
theorem tb_le : ∀ l : List Int, tb l ≤ l.length
  | [] => Nat.le_refl _
  | x :: l => by
    have := tb_le l
    rw [tb_cons]
    simp only [List.length_cons]
    split
    · split <;> omega
    · omega
theorem pc_tb : ∀ (n : Nat) (s : List Int), s.length ≤ n → (pc s = none ↔ tb s % 2 = 1) := by
  intro n
  induction n with
  | zero =>
    intro s hs
    obtain rfl : s = [] := List.length_eq_zero_iff.1 (by omega)
    simp [tb, pc_nil]
  | succ n ih =>
    intro s hs
    match s with
    | [] => simp [tb, pc_nil]
    | c :: r =>
      simp only [List.length_cons] at hs
      have hr := ih r (by omega)
      have step : ¬ c = 92 → tb (c :: r) = tb r := by
        intro h
        rw [tb_cons, if_neg h]
        split
        · rename_i e; exact e.symm
        · rfl
      by_cases h1 : c = 42 ∨ c = 63
      · rw [pc_star h1, step (by omega)]
        simpa using hr
      · by_cases h2 : c = 92
        · subst h2
          match r with
          | [] => simp [tb, pc_end]
          | d :: r' =>
            have hr' := ih r' (by simp at hs; omega)
            rw [pc_esc]
            simp only [Option.map_eq_none_iff]
            rw [hr']
            have hl := tb_le r'
            rw [tb_cons, tb_cons]
            simp only [List.length_cons]
            by_cases e : tb r' = r'.length
            · rw [if_pos e]
              by_cases hd : d = 92
              · rw [if_pos hd, if_pos rfl, if_pos trivial]
                omega
              · rw [if_neg hd, if_neg (by omega)]
                omega
            · rw [if_neg e, if_neg (by omega)]
        · rw [pc_lit h1 h2, step h2]
          simpa using hr
/-- Backslashes counted from the end. -/
theorem tb_count : ∀ (s : List Int) (x : Int), tb (s ++ [x]) = if x = 92 then tb s + 1 else 0
  | [], x => by
    by_cases h : x = 92 <;> simp [tb, h]
  | c :: r, x => by
    have ih := tb_count r x
    have hl := tb_le r
    show tb (c :: (r ++ [x])) = _
    rw [tb_cons, tb_cons, ih]
    by_cases h : x = 92
    · rw [if_pos h, if_pos h]
      simp only [List.length_append, List.length_cons, List.length_nil]
      by_cases e : tb r = r.length
      · rw [if_pos (by omega), if_pos e]
        split <;> omega
      · rw [if_neg (by omega), if_neg e]
    · rw [if_neg h, if_neg h]
      simp only [List.length_append, List.length_cons, List.length_nil]
      rw [if_neg (by omega)]
/-- The fault of a pattern. -/
def pfault (kind : Int) (p : List Int) : Int × Int :=
  if ¬ (1 ≤ kind ∧ kind ≤ 3) then (4, -2) else if p.length > 200 then (1, -3) else if pc p = none ∧ kind = 3 then (11, (p.length : Int) - 1) else (0, 0)
theorem check_ev (kind : Int) (p : ByteArray) : Ev (fun k => patterns_Check.f k kind p) (pfault kind (chars p)) := by
  unfold patterns_Check.f pfault
  rw [chars_len]
  have hj : ∀ b : Bool, (b = true ↔ ¬ (1 ≤ kind ∧ kind ≤ 3)) → Ev (fun k => patterns_Check.j0 k kind p b) (if ¬ (1 ≤ kind ∧ kind ≤ 3) then (4, -2) else if p.size > 200 then (1, -3) else if pc (chars p) = none ∧ kind = 3 then (11, (p.size : Int) - 1) else (0, 0)) := by
    intro b hb
    refine ev_succ ?_
    simp only [patterns_Check.j0]
    by_cases h : ¬ (1 ≤ kind ∧ kind ≤ 3)
    · rw [if_pos h]
      exact ev_pos (hb.2 h) (Ev.now _)
    · rw [if_neg h]
      refine ev_neg (fun e => h (hb.1 e)) ?_
      by_cases h2 : p.size > 200
      · rw [if_pos h2]
        exact ev_pos (by omega) (Ev.now _)
      · rw [if_neg h2]
        refine ev_neg (by omega) (Ev.bind (pieces_ev p (by omega)) ?_)
        rcases hq : pc (chars p) with _ | l
        · by_cases h3 : kind = 3
          · refine ev_eq (r := (11, (p.size : Int) - 1)) ?_ (by rw [if_pos ⟨rfl, h3⟩])
            have : 0 < p.size := by
              rcases Nat.eq_zero_or_pos p.size with h0 | h0
              · have : chars p = [] := List.length_eq_zero_iff.1 (by rw [chars_len]; exact h0)
                rw [this] at hq
                cases hq
              · exact h0
            refine ev_neg (by simp [pcRes]) (ev_pos h3 (ev_now ?_))
            rw [wid (by omega) (by omega)]
          · refine ev_eq (r := (0, 0)) ?_ (by rw [if_neg (fun h => h3 h.2)])
            exact ev_neg (by simp [pcRes]) (ev_neg h3 (Ev.now _))
        · refine ev_eq (r := (0, 0)) ?_ (by rw [if_neg (fun h => by cases h.1)])
          exact ev_pos (by simp [pcRes]) (Ev.now _)
  exact ev_ite (fun h => hj true (by simp; omega)) (fun h => hj _ (by simp; omega))
theorem pfault_ev (kind : Int) (p : ByteArray) : Ev (fun k => posthouseref6_PatternFault.f k kind p) (pfault kind (chars p)) := by
  unfold posthouseref6_PatternFault.f pfault
  rw [in_some, chars_len]
  simp only [Option.bind_some, posthouseref5_At.f]
  by_cases h : ¬ (1 ≤ kind ∧ kind ≤ 3)
  · rw [if_pos h]
    exact ev_neg (by simpa using h) (Ev.now _)
  · rw [if_neg h]
    replace h := Classical.not_not.1 h
    refine ev_pos (by simpa using h) ?_
    by_cases h2 : p.size > 200
    · rw [if_pos h2]
      exact ev_pos (by omega) (Ev.now _)
    · rw [if_neg h2]
      refine ev_neg (by omega) ?_
      have key : ∀ (i : Nat) (m : Nat), i ≤ p.size → m ≤ 200 → tb (chars p) = m + tb ((chars p).take i) → Ev (fun k => posthouseref6_PatternFault.l0 k kind p m ((i : Int) - 1)) (if pc (chars p) = none ∧ kind = 3 then (11, (p.size : Int) - 1) else (0, 0)) := by
        intro i
        have done : ∀ (m : Nat), tb (chars p) = m → ∀ (R : Int × Int), (R = if pc (chars p) = none ∧ kind = 3 then (11, (p.size : Int) - 1) else (0, 0)) → Ev (fun (k : Nat) => if kind = 3 then (if Int.tmod (m : Int) 2 = 1 then some (11, wrap64 ((p.size : Int) - 1)) else some (0, 0)) else some (0, 0)) R := by
          intro m hm R hR
          have hpc := pc_tb (chars p).length (chars p) (Nat.le_refl _)
          rw [hm] at hpc
          have ht : Int.tmod (m : Int) 2 = ((m % 2 : Nat) : Int) := by
            rw [Int.tmod_eq_emod_of_nonneg (by omega)]
            omega
          by_cases h3 : kind = 3
          · refine ev_pos h3 ?_
            by_cases hm2 : m % 2 = 1
            · rw [if_pos ⟨hpc.2 hm2, h3⟩] at hR
              refine ev_pos (by rw [ht, hm2]; rfl) (ev_now ?_)
              rw [hR]
              have : 0 < p.size := by
                have := tb_le (chars p)
                rw [hm, chars_len] at this
                omega
              rw [wid (by omega) (by omega)]
            · rw [if_neg (fun e => hm2 (hpc.1 e.1))] at hR
              refine ev_neg (by rw [ht]; omega) (ev_now hR.symm)
          · rw [if_neg (fun e => h3 e.2)] at hR
            exact ev_neg h3 (ev_now hR.symm)
        induction i with
        | zero =>
          intro m _ _ hm
          refine ev_succ ?_
          simp only [posthouseref6_PatternFault.l0, posthouseref5_At.f, Option.bind_some]
          refine ev_neg (by omega) ?_
          exact done m (by simpa [tb] using hm) _ rfl
        | succ i ih =>
          intro m hi hm hmt
          have e1 : (((i + 1 : Nat) : Int) - 1) = (i : Int) := by omega
          rw [e1]
          refine ev_succ ?_
          simp only [posthouseref6_PatternFault.l0, posthouseref5_At.f, Option.bind_some]
          refine ev_pos (by omega) (ev_pos (by omega) (ev_pos (by omega) ?_))
          have hsn : (chars p).take (i + 1) = (chars p).take i ++ [bt p i] := by
            rw [List.take_succ_eq_append_getElem (by rw [chars_len]; omega), chars_get p i (by omega)]
          rw [hsn, tb_count] at hmt
          have hl := tb_le (chars p)
          rw [chars_len] at hl
          by_cases hc : bt p i = 92
          · rw [if_pos hc] at hmt
            refine ev_pos hc ?_
            rw [w1 (by omega) (by omega), wid (show -9223372036854775808 ≤ (i : Int) - 1 by omega) (by omega)]
            have := ih (m + 1) (by omega) (by omega) (by omega)
            exact this
          · rw [if_neg hc] at hmt
            refine ev_neg hc ?_
            exact done m (by omega) _ rfl
      have := key p.size 0 (by omega) (by omega) (by rw [List.take_of_length_le (by rw [chars_len]; omega)]; omega)
      rw [wid (show -9223372036854775808 ≤ (p.size : Int) - 1 by omega) (by omega)]
      exact this
end Go.Proofs.Ytdnacfnmaieeiaa.Print
