/- A text and the parts of a pattern: the program's table tells whether they fit, and its pieces are what the wild cards stand for. -/
import Derived.Test.YtdnacfnmaieeiaaPurePatBase
import Derived.Test.YtdnacfnmaieeiaaFpatternswild
set_option linter.unusedSimpArgs false
set_option linter.unusedVariables false
namespace Go.Proofs.Ytdnacfnmaieeiaa.Print
open Go.RowKit Go.Proofs.YtdnacfnmaieeiaaW.PrintWords Go.Proofs.YtdnacfnmaieeiaaO.Kit
def starF (g : List Int → Bool) : List Int → Bool
  | [] => g []
  | c :: r => g (c :: r) || starF g r
/-- Do the parts fit the text. -/
def fit : List S56 → List Int → Bool
  | [], s => s.isEmpty
  | p :: l, s => if p.f0 = 42 then starF (fit l) s else match s with | [] => false | c :: r => fit l r && (decide (p.f0 = 63) || decide (low p.f1 = low c))
theorem fit_star {p : S56} {l : List S56} {s : List Int} (h : p.f0 = 42) : fit (p :: l) s = starF (fit l) s := by
  show (if p.f0 = 42 then starF (fit l) s else _) = _
  rw [if_pos h]
theorem fit_none {p : S56} {l : List S56} (h : ¬ p.f0 = 42) : fit (p :: l) [] = false := by
  show (if p.f0 = 42 then _ else false) = _
  rw [if_neg h]
theorem fit_one {p : S56} {l : List S56} {c : Int} {r : List Int} (h : ¬ p.f0 = 42) : fit (p :: l) (c :: r) = (fit l r && (decide (p.f0 = 63) || decide (low p.f1 = low c))) := by
  show (if p.f0 = 42 then _ else (fit l r && (decide (p.f0 = 63) || decide (low p.f1 = low c)))) = _
  rw [if_neg h]
theorem drop_all (t : ByteArray) {i : Nat} (h : t.size ≤ i) : (chars t).drop i = [] := List.drop_of_length_le (by rw [chars_len]; exact h)
/-- How far the shortest piece goes behind which the rest fits. -/
def least (g : List Int → Bool) : List Int → Nat
  | [] => 0
  | c :: r => if g (c :: r) then 0 else least g r + 1
theorem least_le (g : List Int → Bool) : ∀ s, least g s ≤ s.length
  | [] => Nat.le_refl _
  | c :: r => by
    have := least_le g r
    unfold least
    simp only [List.length_cons]
    split <;> omega
theorem least_fit (g : List Int → Bool) : ∀ s, starF g s = true → g (s.drop (least g s)) = true
  | [], h => h
  | c :: r, h => by
    unfold least
    by_cases hc : g (c :: r) = true
    · rw [if_pos hc]
      exact hc
    · rw [if_neg hc]
      unfold starF at h
      exact least_fit g r (by simpa [hc] using h)
section
variable (t : ByteArray)
/-- The pieces, from a place on. -/
def cut : List S56 → Nat → List ByteArray
  | [], _ => []
  | p :: l, i => if p.f0 = 42 then t.extract i (i + least (fit l) ((chars t).drop i)) :: cut l (i + least (fit l) ((chars t).drop i))
    else if p.f0 = 0 then cut l (i + 1) else t.extract i (i + 1) :: cut l (i + 1)
theorem cut_star {p : S56} {l : List S56} {i : Nat} (h : p.f0 = 42) : cut t (p :: l) i = t.extract i (i + least (fit l) ((chars t).drop i)) :: cut t l (i + least (fit l) ((chars t).drop i)) := by
  show (if p.f0 = 42 then _ else _) = _
  rw [if_pos h]
theorem cut_lit {p : S56} {l : List S56} {i : Nat} (h : p.f0 = 0) : cut t (p :: l) i = cut t l (i + 1) := by
  show (if p.f0 = 42 then _ else if p.f0 = 0 then _ else _) = _
  rw [if_neg (by omega), if_pos h]
theorem cut_any {p : S56} {l : List S56} {i : Nat} (h : ¬ p.f0 = 42) (h0 : ¬ p.f0 = 0) : cut t (p :: l) i = t.extract i (i + 1) :: cut t l (i + 1) := by
  show (if p.f0 = 42 then _ else if p.f0 = 0 then _ else _) = _
  rw [if_neg h, if_neg h0]
end
/-! tables -/
def rowT (n : Nat) (f : Nat → Bool) : List Bool := (List.range (n + 1)).map f
def tab (m n : Nat) (T : Nat → Nat → Bool) : List (List Bool) := (List.range (m + 1)).map fun a => rowT n (T a)
theorem rowT_len (n : Nat) (f : Nat → Bool) : (rowT n f).length = n + 1 := by simp [rowT]
theorem tab_len (m n : Nat) (T : Nat → Nat → Bool) : (tab m n T).length = m + 1 := by simp [tab]
theorem rowT_get (n : Nat) (f : Nat → Bool) (i : Nat) (h : i ≤ n) : rdOf false (rowT n f) (i : Int) = f i := by
  unfold rdOf rowT
  rw [List.getD_eq_getElem?_getD, List.getElem?_map, List.getElem?_range (by omega)]
  simp
theorem tab_get (m n : Nat) (T : Nat → Nat → Bool) (a : Nat) (h : a ≤ m) : rd_L6 (tab m n T) (a : Int) = rowT n (T a) := by
  unfold rd_L6 tab
  rw [List.getD_eq_getElem?_getD, List.getElem?_map, List.getElem?_range (by omega)]
  simp
theorem rowT_congr (n : Nat) {f g : Nat → Bool} (h : ∀ i, i ≤ n → f i = g i) : rowT n f = rowT n g := by
  unfold rowT
  exact List.map_congr_left fun i hi => h i (by have := List.mem_range.1 hi; omega)
theorem tab_congr (m n : Nat) {T U : Nat → Nat → Bool} (h : ∀ a, a ≤ m → ∀ b, b ≤ n → T a b = U a b) : tab m n T = tab m n U := by
  unfold tab
  exact List.map_congr_left fun a ha => rowT_congr n (h a (by have := List.mem_range.1 ha; omega))
theorem rowT_set (n : Nat) (f : Nat → Bool) (i : Nat) (v : Bool) : (rowT n f).set i v = rowT n (fun b => if b = i then v else f b) := by
  unfold rowT
  apply List.ext_getElem
  · simp
  · intro j h1 h2
    rw [List.getElem_set, List.getElem_map, List.getElem_map, List.getElem_range]
    by_cases h : i = j
    · rw [if_pos h, if_pos h.symm]
    · rw [if_neg h, if_neg (fun e => h e.symm)]
theorem tab_set (m n : Nat) (T : Nat → Nat → Bool) (a : Nat) (f : Nat → Bool) : (tab m n T).set a (rowT n f) = tab m n (fun c => if c = a then f else T c) := by
  unfold tab
  apply List.ext_getElem
  · simp
  · intro j h1 h2
    rw [List.getElem_set, List.getElem_map, List.getElem_map, List.getElem_range]
    dsimp only
    by_cases h : a = j
    · rw [if_pos h, if_pos h.symm]
    · rw [if_neg h, if_neg (fun e => h e.symm)]
theorem set_one (m n : Nat) (T U : Nat → Nat → Bool) (a b : Nat) (v : Bool) (ha : a ≤ m) (h : ∀ c, c ≤ m → ∀ d, d ≤ n → U c d = if c = a ∧ d = b then v else T c d) :
    (tab m n T).set (a : Int).toNat ((rd_L6 (tab m n T) (a : Int)).set (b : Int).toNat v) = tab m n U := by
  rw [tab_get m n T a ha, Int.toNat_natCast, Int.toNat_natCast, rowT_set, tab_set]
  refine tab_congr m n fun c hc d hd => ?_
  rw [h c hc d hd]
  by_cases e : c = a
  · by_cases e2 : d = b
    · simp [e, e2]
    · simp [e, e2]
  · simp [e]
section
variable (l : List S56) (t : ByteArray)
/-- What the table is to hold. -/
def fr (a b : Nat) : Bool := fit (l.drop a) ((chars t).drop b)
/-- The table behind row k, from place i of row k on. -/
def H (k i a b : Nat) : Bool := if k < a ∨ (k = a ∧ i ≤ b) then fr l t a b else false
def G (k a b : Nat) : Bool := if k ≤ a then fr l t a b else false
theorem part_at (k : Nat) (h : k < l.length) : ∃ p, rd_T56 l (k : Int) = p ∧ l.drop k = p :: l.drop (k + 1) := by
  have hd := List.drop_eq_getElem_cons h
  exact ⟨l[k], getD_drop (i := (k : Int).toNat) hd, hd⟩
theorem fr_end (k : Nat) (p : S56) (hp : l.drop k = p :: l.drop (k + 1)) (hn : ¬ p.f0 = 42) : fr l t k t.size = false := by
  unfold fr
  rw [hp, drop_all t (Nat.le_refl _), fit_none hn]
theorem fr_star (k i : Nat) (p : S56) (hp : l.drop k = p :: l.drop (k + 1)) (hs : p.f0 = 42) (hi : i < t.size) : fr l t k i = (fr l t (k + 1) i || fr l t k (i + 1)) := by
  unfold fr
  rw [hp, fit_star hs, fit_star hs, chars_drop t i hi]
  rfl
theorem fr_star_end (k : Nat) (p : S56) (hp : l.drop k = p :: l.drop (k + 1)) (hs : p.f0 = 42) : fr l t k t.size = fr l t (k + 1) t.size := by
  unfold fr
  rw [hp, fit_star hs, drop_all t (Nat.le_refl _)]
  rfl
theorem fr_one (k i : Nat) (p : S56) (hp : l.drop k = p :: l.drop (k + 1)) (hs : ¬ p.f0 = 42) (hi : i < t.size) : fr l t k i = (fr l t (k + 1) (i + 1) && (decide (p.f0 = 63) || decide (low p.f1 = low (bt t i)))) := by
  unfold fr
  rw [hp, chars_drop t i hi, fit_one hs]
theorem l2_ev (hl : l.length ≤ 200) (ht : t.size ≤ 4000) (k : Nat) (hk : k < l.length) (R : Bool × List ByteArray) (hgo : Ev (fun n => patterns_wild.l1 n l t (tab l.length t.size (G l t k)) ((k : Int) - 1)) R) :
    ∀ i : Nat, i ≤ t.size + 1 → Ev (fun n => patterns_wild.l2 n l t (tab l.length t.size (H l t k i)) k ((i : Int) - 1)) R := by
  obtain ⟨p, hrd, hp⟩ := part_at l k hk
  intro i
  induction i with
  | zero =>
    intro _
    refine ev_succ ?_
    simp only [patterns_wild.l2]
    refine ev_neg (by omega) ?_
    rw [wid (by omega) (by omega)]
    have : tab l.length t.size (H l t k 0) = tab l.length t.size (G l t k) := tab_congr _ _ fun a _ b _ => by
      unfold H G
      by_cases h : k ≤ a
      · rw [if_pos h, if_pos (by omega)]
      · rw [if_neg h, if_neg (by omega)]
    rw [this]
    exact hgo
  | succ i ih =>
    intro hi
    have hnext := ih (by omega)
    have e0 : (((i + 1 : Nat) : Int) - 1) = (i : Int) := by omega
    have e1 : ((k : Int) + 1) = ((k + 1 : Nat) : Int) := by omega
    have e2 : ((i : Int) + 1) = ((i + 1 : Nat) : Int) := by omega
    have hset : ∀ v, v = fr l t k i → (tab l.length t.size (H l t k (i + 1))).set (k : Int).toNat ((rd_L6 (tab l.length t.size (H l t k (i + 1))) (k : Int)).set (i : Int).toNat v) = tab l.length t.size (H l t k i) := by
      intro v hv
      refine set_one _ _ _ _ k i v (by omega) fun c hc d hd => ?_
      unfold H
      by_cases h : c = k ∧ d = i
      · rw [if_pos h, if_pos (by omega), hv, h.1, h.2]
      · rw [if_neg h]
        by_cases h2 : k < c ∨ (k = c ∧ i + 1 ≤ d)
        · rw [if_pos h2, if_pos (by omega)]
        · rw [if_neg h2, if_neg (by omega)]
    have hk1 : ∀ b, b ≤ t.size → rdOf false (rd_L6 (tab l.length t.size (H l t k (i + 1))) ((k + 1 : Nat) : Int)) (b : Int) = fr l t (k + 1) b := by
      intro b hb
      rw [tab_get _ _ _ (k + 1) (by omega), rowT_get _ _ b hb]
      unfold H
      rw [if_pos (by omega)]
    have hk0 : ∀ b, b ≤ t.size → i + 1 ≤ b → rdOf false (rd_L6 (tab l.length t.size (H l t k (i + 1))) (k : Int)) (b : Int) = fr l t k b := by
      intro b hb hib
      rw [tab_get _ _ _ k (by omega), rowT_get _ _ b hb]
      unfold H
      rw [if_pos (by omega)]
    have hlen : ∀ a : Nat, a ≤ l.length → (rd_L6 (tab l.length t.size (H l t k (i + 1))) (a : Int)).length = t.size + 1 := fun a ha => by rw [tab_get _ _ _ a ha, rowT_len]
    have htl := tab_len l.length t.size (H l t k (i + 1))
    rw [e0]
    refine ev_succ ?_
    simp only [patterns_wild.l2, hrd, wN (show k < 9223372036854775807 by omega), wN (show i < 9223372036854775807 by omega), wid (show -9223372036854775808 ≤ (i : Int) - 1 by omega) (by omega), same_some, Option.bind_some]
    have hl1 := hlen (k + 1) (by omega)
    have hl0 := hlen k (by omega)
    refine ev_pos (by omega) (ev_pos (by omega) (ev_pos (by omega) ?_))
    by_cases hs : p.f0 = 42
    · refine ev_pos hs (ev_pos (by omega) (ev_pos (by omega) (ev_pos (by omega) (ev_pos (by omega) (ev_pos (by omega) ?_)))))
      rw [hk1 i (by omega)]
      by_cases hc : fr l t (k + 1) i = true
      · refine ev_pos hc (ev_pos (by omega) ?_)
        rw [hset true]
        · exact hnext
        · by_cases hin : i < t.size
          · rw [fr_star l t k i p hp hs hin, hc]
            rfl
          · obtain rfl : i = t.size := by omega
            rw [fr_star_end l t k p hp hs, hc]
      · refine ev_neg hc ?_
        by_cases hin : i < t.size
        · refine ev_pos (by omega) (ev_pos (by omega) (ev_pos (by omega) (ev_pos (by omega) ?_)))
          rw [hk0 (i + 1) (by omega) (by omega), hset _]
          · exact hnext
          · rw [fr_star l t k i p hp hs hin]
            simp only [Bool.not_eq_true] at hc
            rw [hc]
            rfl
        · refine ev_neg (by omega) (ev_pos (by omega) ?_)
          obtain rfl : i = t.size := by omega
          rw [hset false]
          · exact hnext
          · rw [fr_star_end l t k p hp hs]
            simpa using hc
    · refine ev_neg hs ?_
      by_cases hin : i < t.size
      · refine ev_pos (by omega) (ev_pos (by omega) (ev_pos (by omega) (ev_pos (by omega) (ev_pos (by omega) (ev_pos (by omega) ?_)))))
        rw [hk1 (i + 1) (by omega)]
        have hf := fr_one l t k i p hp hs hin
        by_cases hc : fr l t (k + 1) (i + 1) = true
        · refine ev_pos hc ?_
          by_cases hq : p.f0 = 63
          · refine ev_pos hq (ev_pos (by omega) (ev_pos (by omega) ?_))
            rw [hset true]
            · exact hnext
            · rw [hf, hc]
              simp [hq]
          · refine ev_neg hq (ev_pos (by omega) (ev_pos (by omega) ?_))
            rw [hset _]
            · exact hnext
            · rw [hf, hc]
              simp [hq]
        · refine ev_neg hc (ev_pos (by omega) (ev_pos (by omega) ?_))
          rw [hset false]
          · exact hnext
          · rw [hf]
            simp only [Bool.not_eq_true] at hc
            rw [hc]
            rfl
      · refine ev_neg (by omega) ?_
        obtain rfl : i = t.size := by omega
        have : tab l.length t.size (H l t k (t.size + 1)) = tab l.length t.size (H l t k t.size) := tab_congr _ _ fun a _ b hb => by
          unfold H
          by_cases h : k < a ∨ (k = a ∧ t.size + 1 ≤ b)
          · rw [if_pos h, if_pos (by omega)]
          · rw [if_neg h]
            by_cases h2 : k < a ∨ (k = a ∧ t.size ≤ b)
            · rw [if_pos h2]
              obtain ⟨rfl, rfl⟩ : k = a ∧ b = t.size := by omega
              exact (fr_end l t k p hp hs).symm
            · rw [if_neg h2]
        rw [this]
        exact hnext
/-! the pieces -/
theorem l4_ev (hl : l.length ≤ 200) (ht : t.size ≤ 4000) (out : List ByteArray) (k j : Nat) (hk : k < l.length) (p : S56) (hp : l.drop k = p :: l.drop (k + 1)) (hs : p.f0 = 42) (hout : out.length ≤ 1000) (R : Bool × List ByteArray) :
    ∀ (d i : Nat), t.size - i ≤ d → i ≤ t.size → starF (fit (l.drop (k + 1))) ((chars t).drop i) = true → j ≤ i →
      Ev (fun n => patterns_wild.l3 n t (tab l.length t.size (G l t 0)) (out ++ [t.extract j (i + least (fit (l.drop (k + 1))) ((chars t).drop i))]) ((i + least (fit (l.drop (k + 1))) ((chars t).drop i) : Nat) : Int) l (l.length : Int) ((k + 1 : Nat) : Int)) R →
      Ev (fun n => patterns_wild.l4 n t (tab l.length t.size (G l t 0)) out i k j l (l.length : Int) k p.f0 p.f1) R := by
  have htl := tab_len l.length t.size (G l t 0)
  have hlen : (rd_L6 (tab l.length t.size (G l t 0)) ((k + 1 : Nat) : Int)).length = t.size + 1 := by rw [tab_get _ _ _ (k + 1) (by omega), rowT_len]
  have e1 : ((k : Int) + 1) = ((k + 1 : Nat) : Int) := by omega
  intro d
  induction d with
  | zero =>
    intro i hd hi hst hj h
    obtain rfl : i = t.size := by omega
    rw [drop_all t (Nat.le_refl _)] at hst h
    have hf : fr l t (k + 1) t.size = true := by
      unfold fr
      rw [drop_all t (Nat.le_refl _)]
      exact hst
    refine ev_succ ?_
    simp only [patterns_wild.l4, wN (show k < 9223372036854775807 by omega)]
    refine ev_pos (by omega) (ev_pos (by omega) (ev_pos (by omega) (ev_pos (by omega) (ev_pos ?_ ?_))))
    · rw [tab_get _ _ _ (k + 1) (by omega), rowT_get _ _ t.size (by omega)]
      unfold G
      rw [if_pos (by omega)]
      exact hf
    · refine ev_neg (by omega) (ev_pos (by omega) (ev_pos (by omega) (ev_pos (by omega) (ev_pos (by omega) ?_))))
      simpa [least] using h
  | succ d ih =>
    intro i hd hi hst hj h
    refine ev_succ ?_
    simp only [patterns_wild.l4, wN (show k < 9223372036854775807 by omega)]
    refine ev_pos (by omega) (ev_pos (by omega) (ev_pos (by omega) (ev_pos (by omega) ?_)))
    rw [tab_get _ _ _ (k + 1) (by omega), rowT_get _ _ i (by omega)]
    have hG : G l t 0 (k + 1) i = fit (l.drop (k + 1)) ((chars t).drop i) := by
      unfold G
      rw [if_pos (by omega)]
      rfl
    rw [hG]
    by_cases hf : fit (l.drop (k + 1)) ((chars t).drop i) = true
    · have hz : least (fit (l.drop (k + 1))) ((chars t).drop i) = 0 := by
        rcases hq : (chars t).drop i with _ | ⟨c, r⟩
        · rfl
        · unfold least
          rw [hq] at hf
          rw [if_pos hf]
      rw [hz] at h
      refine ev_pos hf (ev_neg (by omega) (ev_pos (by omega) (ev_pos (by omega) (ev_pos (by omega) (ev_pos (by omega) ?_)))))
      simpa using h
    · by_cases hin : i < t.size
      · have hd2 := chars_drop t i hin
        have hst2 : starF (fit (l.drop (k + 1))) ((chars t).drop (i + 1)) = true := by
          rw [hd2] at hst hf
          unfold starF at hst
          simpa [hf] using hst
        have hle : least (fit (l.drop (k + 1))) ((chars t).drop i) = least (fit (l.drop (k + 1))) ((chars t).drop (i + 1)) + 1 := by
          rw [hd2] at hf ⊢
          conv => lhs; unfold least
          rw [if_neg hf]
        refine ev_neg hf ?_
        rw [wN (show i < 9223372036854775807 by omega)]
        refine ih (i + 1) (by omega) (by omega) hst2 (by omega) ?_
        rw [hle] at h
        rw [show i + 1 + least (fit (l.drop (k + 1))) ((chars t).drop (i + 1)) = i + (least (fit (l.drop (k + 1))) ((chars t).drop (i + 1)) + 1) by omega]
        exact h
      · exfalso
        obtain rfl : i = t.size := by omega
        rw [drop_all t (Nat.le_refl _)] at hst hf
        exact hf hst
theorem cut_len : ∀ (l : List S56) (i : Nat), (cut t l i).length ≤ l.length
  | [], _ => Nat.le_refl _
  | p :: l, i => by
    unfold cut
    simp only [List.length_cons]
    by_cases h : p.f0 = 42
    · rw [if_pos h]
      have := cut_len l (i + least (fit l) ((chars t).drop i))
      simp only [List.length_cons]
      omega
    · rw [if_neg h]
      have := cut_len l (i + 1)
      split
      · omega
      · simp only [List.length_cons]
        omega
theorem l3_ev (hl : l.length ≤ 200) (ht : t.size ≤ 4000) : ∀ (r : List S56) (k i : Nat) (out : List ByteArray), l.drop k = r → k ≤ l.length → i ≤ t.size → fit r ((chars t).drop i) = true → out.length ≤ k →
    Ev (fun n => patterns_wild.l3 n t (tab l.length t.size (G l t 0)) out i l (l.length : Int) k) (true, out ++ cut t r i) := by
  intro r
  induction r with
  | nil =>
    intro k i out hd hk hi hf hout
    have := drop_ge hd
    refine ev_succ ?_
    simp only [patterns_wild.l3]
    refine ev_neg (by omega) (ev_now ?_)
    simp [cut]
  | cons p r ih =>
    intro k i out hd hk hi hf hout
    have hlt := drop_lt hd
    have hd' := drop_step hd
    have hrd : rd_T56 l (k : Int) = p := getD_drop (i := (k : Int).toNat) hd
    have e1 : ((k : Int) + 1) = ((k + 1 : Nat) : Int) := by omega
    have e2 : ((i : Int) + 1) = ((i + 1 : Nat) : Int) := by omega
    refine ev_succ ?_
    simp only [patterns_wild.l3, hrd, wN (show k < 9223372036854775807 by omega), wN (show i < 9223372036854775807 by omega)]
    refine ev_pos (by omega) (ev_pos (by omega) (ev_pos (by omega) ?_))
    by_cases hs : p.f0 = 42
    · refine ev_pos hs ?_
      rw [fit_star hs] at hf
      refine l4_ev l t hl ht out k i hlt p (by rw [hd, hd']) hs (by omega) _ t.size i (by omega) hi (by rw [hd']; exact hf) (by omega) ?_
      rw [hd']
      have hle := least_le (fit r) ((chars t).drop i)
      rw [List.length_drop, chars_len] at hle
      have hfit := least_fit (fit r) _ hf
      rw [List.drop_drop] at hfit
      have := ih (k + 1) (i + least (fit r) ((chars t).drop i)) (out ++ [t.extract i (i + least (fit r) ((chars t).drop i))]) hd' (by omega) (by omega) hfit (by simp; omega)
      refine ev_eq this ?_
      rw [cut_star t hs]
      simp
    · refine ev_neg hs ?_
      have hin : i < t.size := by
        rcases Nat.lt_or_ge i t.size with h | h
        · exact h
        · rw [drop_all t h, fit_none hs] at hf
          cases hf
      rw [chars_drop t i hin, fit_one hs] at hf
      simp only [Bool.and_eq_true] at hf
      by_cases h0 : p.f0 = 0
      · refine ev_pos h0 ?_
        refine ev_eq (ih (k + 1) (i + 1) out hd' (by omega) (by omega) hf.1 (by omega)) ?_
        rw [cut_lit t h0]
      · refine ev_neg h0 (ev_pos (by omega) (ev_pos (by omega) (ev_pos (by omega) (ev_pos (by omega) ?_))))
        rw [Int.toNat_natCast, Int.toNat_natCast]
        refine ev_eq (ih (k + 1) (i + 1) (out ++ [t.extract i (i + 1)]) hd' (by omega) (by omega) hf.1 (by simp; omega)) ?_
        rw [cut_any t hs h0]
        simp
theorem l1_ev (hl : l.length ≤ 200) (ht : t.size ≤ 4000) : ∀ k : Nat, k ≤ l.length → Ev (fun n => patterns_wild.l1 n l t (tab l.length t.size (G l t k)) ((k : Int) - 1)) (fit l (chars t), if fit l (chars t) = true then cut t l 0 else []) := by
  intro k
  induction k with
  | zero =>
    intro _
    have htl := tab_len l.length t.size (G l t 0)
    have hrow : rd_L6 (tab l.length t.size (G l t 0)) 0 = rowT t.size (G l t 0 0) := tab_get _ _ _ 0 (by omega)
    have h00 : rdOf false (rowT t.size (G l t 0 0)) 0 = fit l (chars t) := by
      have := rowT_get t.size (G l t 0 0) 0 (by omega)
      simp only [Int.natCast_zero] at this
      exact this
    refine ev_succ ?_
    simp only [patterns_wild.l1, hrow, h00, rowT_len]
    refine ev_neg (by omega) (ev_pos (by omega) (ev_pos (by omega) ?_))
    by_cases hf : fit l (chars t) = true
    · refine ev_pos hf ?_
      rw [if_pos hf, hf]
      exact l3_ev l t hl ht l 0 0 [] rfl (by omega) (by omega) (by simpa using hf) (by simp)
    · refine ev_neg hf (ev_now ?_)
      rw [if_neg hf]
      simp only [Bool.not_eq_true] at hf
      rw [hf]
  | succ k ih =>
    intro hk
    have e0 : (((k + 1 : Nat) : Int) - 1) = (k : Int) := by omega
    rw [e0]
    refine ev_succ ?_
    simp only [patterns_wild.l1]
    refine ev_pos (by omega) ?_
    have := l2_ev l t hl ht k (by omega) _ (ih (by omega)) (t.size + 1) (by omega)
    have e2 : (((t.size + 1 : Nat) : Int) - 1) = (t.size : Int) := by omega
    rw [e2] at this
    have ht2 : tab l.length t.size (H l t k (t.size + 1)) = tab l.length t.size (G l t (k + 1)) := tab_congr _ _ fun a _ b hb => by
      unfold H G
      by_cases h : k + 1 ≤ a
      · rw [if_pos h, if_pos (by omega)]
      · rw [if_neg h, if_neg (by omega)]
    rw [ht2] at this
    exact this
theorem wild_ev (hl : l.length ≤ 200) (ht : t.size ≤ 4000) : Ev (fun k => patterns_wild.f k l t) (fit l (chars t), if fit l (chars t) = true then cut t l 0 else []) := by
  unfold patterns_wild.f
  rw [w1 (show (0 : Int) ≤ l.length by omega) (by omega)]
  have e1 : ((l.length : Int) + 1).toNat = l.length + 1 := by omega
  rw [e1]
  refine ev_pos (by omega) (ev_pos (by omega) (ev_some ?_))
  rw [List.length_replicate]
  have hrows : ∀ (d j : Nat), j + d = l.length + 1 → Ev (fun n => patterns_wild.l0 n l t ((List.range (l.length + 1)).map fun a => if a < j then rowT t.size (fun _ => false) else []) ((l.length + 1 : Nat) : Int) j) (fit l (chars t), if fit l (chars t) = true then cut t l 0 else []) := by
    intro d
    induction d with
    | zero =>
      intro j hj
      have htab : ((List.range (l.length + 1)).map fun a => if a < j then rowT t.size (fun _ => false) else []) = tab l.length t.size (fun _ _ => false) := by
        unfold tab
        exact List.map_congr_left fun a ha => by rw [if_pos (by have := List.mem_range.1 ha; omega)]
      rw [htab]
      have htl := tab_len l.length t.size (fun _ _ => false)
      have hlen : (rd_L6 (tab l.length t.size (fun _ _ => false)) (l.length : Int)).length = t.size + 1 := by rw [tab_get _ _ _ l.length (by omega), rowT_len]
      refine ev_succ ?_
      simp only [patterns_wild.l0]
      refine ev_neg (by omega) (ev_pos (by omega) (ev_pos (by omega) (ev_pos (by omega) (ev_pos (by omega) ?_))))
      rw [set_one l.length t.size _ (G l t l.length) l.length t.size true (by omega)]
      · rw [wid (by omega) (by omega)]
        exact l1_ev l t hl ht l.length (by omega)
      · intro c hc b hb
        unfold G fr
        by_cases h : c = l.length ∧ b = t.size
        · rw [if_pos h, if_pos (by omega), h.1, h.2, drop_all t (Nat.le_refl _), List.drop_of_length_le (Nat.le_refl _)]
          rfl
        · rw [if_neg h]
          by_cases h2 : l.length ≤ c
          · rw [if_pos h2, List.drop_of_length_le h2, chars_drop t b (by omega)]
            rfl
          · rw [if_neg h2]
    | succ d ih =>
      intro j hj
      refine ev_succ ?_
      have e2 : ((t.size : Int) + 1).toNat = t.size + 1 := by omega
      simp only [patterns_wild.l0, wN (show j < 9223372036854775807 by omega), w1 (show (0 : Int) ≤ t.size by omega) (by omega), e2]
      refine ev_pos (by omega) (ev_pos (by omega) (ev_pos (by omega) (ev_pos (by omega) (ev_pos (by simp; omega) ?_))))
      have hset : (((List.range (l.length + 1)).map fun a => if a < j then rowT t.size (fun _ => false) else []).set (j : Int).toNat (List.replicate (t.size + 1) false)) = ((List.range (l.length + 1)).map fun a => if a < j + 1 then rowT t.size (fun _ => false) else []) := by
        apply List.ext_getElem
        · simp
        · intro x h1 h2
          rw [List.getElem_set, List.getElem_map, List.getElem_map, List.getElem_range, Int.toNat_natCast]
          have hrep : List.replicate (t.size + 1) false = rowT t.size (fun _ => false) := by
            unfold rowT
            apply List.ext_getElem
            · simp
            · intro y h3 h4
              simp
          by_cases h : j = x
          · rw [if_pos h, if_pos (by omega), hrep]
          · rw [if_neg h]
            by_cases h3 : x < j
            · rw [if_pos h3, if_pos (by omega)]
            · rw [if_neg h3, if_neg (by omega)]
      rw [hset]
      exact ih (j + 1) (by omega)
  have h0 : List.replicate (l.length + 1) ([] : List Bool) = ((List.range (l.length + 1)).map fun a => if a < 0 then rowT t.size (fun _ => false) else []) := by
    apply List.ext_getElem
    · simp
    · intro x h1 h2
      simp
  rw [h0]
  exact hrows (l.length + 1) 0 (by omega)
end
end Go.Proofs.Ytdnacfnmaieeiaa.Print
