/- The references for wild cards: the offsets that are reached, and the possibilities in order. -/
import Derived.Test.YtdnacfnmaieeiaaPurePatWild
import Derived.Test.YtdnacfnmaieeiaaFposthouseref6Wild
set_option linter.unusedSimpArgs false
set_option linter.unusedVariables false
namespace Go.Proofs.Ytdnacfnmaieeiaa.Print
open Go.RowKit Go.Proofs.YtdnacfnmaieeiaaW.PrintWords Go.Proofs.YtdnacfnmaieeiaaO.Kit
theorem starF_iff (g : List Int → Bool) : ∀ s, starF g s = true ↔ ∃ j, j ≤ s.length ∧ g (s.drop j) = true
  | [] => by
    unfold starF
    constructor
    · intro h; exact ⟨0, Nat.le_refl _, h⟩
    · rintro ⟨j, hj, h⟩
      simpa using h
  | c :: r => by
    unfold starF
    rw [Bool.or_eq_true, starF_iff g r]
    constructor
    · rintro (h | ⟨j, hj, h⟩)
      · exact ⟨0, Nat.zero_le _, h⟩
      · exact ⟨j + 1, by simp; omega, h⟩
    · rintro ⟨j, hj, h⟩
      cases j with
      | zero => exact .inl h
      | succ j => exact .inr ⟨j, by simp at hj; omega, h⟩
section
variable (t : ByteArray)
/-- Do the rest of the parts fit from one of the offsets that are reached. -/
def anyF (O : Nat → Bool) (l : List S56) : Bool := (List.range (t.size + 1)).any fun i => O i && fit l ((chars t).drop i)
theorem anyF_iff {O : Nat → Bool} {l : List S56} : anyF t O l = true ↔ ∃ i, i ≤ t.size ∧ O i = true ∧ fit l ((chars t).drop i) = true := by
  unfold anyF
  rw [List.any_eq_true]
  constructor
  · rintro ⟨i, hi, h⟩
    have := List.mem_range.1 hi
    rw [Bool.and_eq_true] at h
    exact ⟨i, by omega, h⟩
  · rintro ⟨i, hi, h⟩
    exact ⟨i, List.mem_range.2 (by omega), by rw [Bool.and_eq_true]; exact h⟩
/-- The offsets behind a part. -/
def stp (q : S56) (O : Nat → Bool) (i : Nat) : Bool :=
  if q.f0 = 42 then (List.range (i + 1)).any O else decide (0 < i) && O (i - 1) && (decide (q.f0 = 63) || decide (low q.f1 = low (bt t ((i - 1 : Nat) : Int))))
theorem stp_star {q : S56} {O : Nat → Bool} (h : q.f0 = 42) (i : Nat) : stp t q O (i + 1) = (O (i + 1) || stp t q O i) := by
  unfold stp
  rw [if_pos h, if_pos h, List.range_succ, List.any_append]
  simp [Bool.or_comm]
theorem stp_star0 {q : S56} {O : Nat → Bool} (h : q.f0 = 42) : stp t q O 0 = O 0 := by
  unfold stp
  rw [if_pos h]
  simp
theorem anyF_step (q : S56) (l : List S56) (O : Nat → Bool) : anyF t O (q :: l) = anyF t (stp t q O) l := by
  rw [Bool.eq_iff_iff, anyF_iff, anyF_iff]
  by_cases h : q.f0 = 42
  · constructor
    · rintro ⟨i, hi, ho, hf⟩
      rw [fit_star h, starF_iff] at hf
      obtain ⟨j, hj, hf⟩ := hf
      rw [List.length_drop, chars_len] at hj
      rw [List.drop_drop] at hf
      refine ⟨i + j, by omega, ?_, hf⟩
      unfold stp
      rw [if_pos h, List.any_eq_true]
      exact ⟨i, List.mem_range.2 (by omega), ho⟩
    · rintro ⟨j, hj, ho, hf⟩
      unfold stp at ho
      rw [if_pos h, List.any_eq_true] at ho
      obtain ⟨i, hi, ho⟩ := ho
      have := List.mem_range.1 hi
      refine ⟨i, by omega, ho, ?_⟩
      rw [fit_star h, starF_iff]
      refine ⟨j - i, by rw [List.length_drop, chars_len]; omega, ?_⟩
      rw [List.drop_drop, show i + (j - i) = j by omega]
      exact hf
  · constructor
    · rintro ⟨i, hi, ho, hf⟩
      by_cases hin : i < t.size
      · rw [chars_drop t i hin, fit_one h, Bool.and_eq_true] at hf
        refine ⟨i + 1, by omega, ?_, hf.1⟩
        unfold stp
        rw [if_neg h]
        simp only [Nat.add_sub_cancel, ho, hf.2]
        simp
      · rw [drop_all t (by omega), fit_none h] at hf
        cases hf
    · rintro ⟨j, hj, ho, hf⟩
      unfold stp at ho
      rw [if_neg h] at ho
      simp only [Bool.and_eq_true, decide_eq_true_eq] at ho
      obtain ⟨⟨h0, ho⟩, hc⟩ := ho
      refine ⟨j - 1, by omega, ho, ?_⟩
      rw [chars_drop t (j - 1) (by omega), fit_one h, Bool.and_eq_true, show j - 1 + 1 = j by omega]
      exact ⟨hf, hc⟩
/-- The sign that the code has for a part. -/
def Sgn (q : S56) (c : Int) (plain : Bool) : Prop := (q.f0 = 42 ∧ c = 42 ∧ plain = false) ∨ (q.f0 = 63 ∧ c = 63 ∧ plain = false) ∨ (q.f0 = 0 ∧ q.f1 = c ∧ plain = true)
def upTo (N : Nat → Bool) (i b : Nat) : Bool := decide (b < i) && N b
theorem row_one (N : Nat → Bool) (i : Nat) (v : Bool) (hv : v = N i) : (rowT t.size (upTo N i)).set (i : Int).toNat v = rowT t.size (upTo N (i + 1)) := by
  rw [Int.toNat_natCast, rowT_set]
  refine rowT_congr _ fun b _ => ?_
  unfold upTo
  by_cases h : b = i
  · rw [if_pos h, hv, h]
    simp
  · rw [if_neg h]
    by_cases h2 : b < i
    · simp [h2, show b < i + 1 by omega]
    · simp [h2, show ¬ b < i + 1 by omega]
theorem row_same (N : Nat → Bool) (i : Nat) (hv : N i = false) : rowT t.size (upTo N i) = rowT t.size (upTo N (i + 1)) := by
  refine rowT_congr _ fun b _ => ?_
  unfold upTo
  by_cases h : b = i
  · rw [h, hv]
    simp
  · by_cases h2 : b < i
    · simp [h2, show b < i + 1 by omega]
    · simp [h2, show ¬ b < i + 1 by omega]
theorem suits_l1 (p : ByteArray) (ht : t.size ≤ 4000) (O : Nat → Bool) (q : S56) (c : Int) (hc0 : 0 ≤ c) (hc1 : c ≤ 255) (plain : Bool) (hq : Sgn q c plain) (x6 : Int) (R : Bool)
    (hgo : Ev (fun n => posthouseref6_Suits.l0 n p t (rowT t.size (stp t q O)) (wrap64 (x6 + 1))) R) :
    ∀ (d i : Nat), i + d = t.size + 1 → Ev (fun n => posthouseref6_Suits.l1 n p t (rowT t.size O) x6 (rowT t.size (upTo (stp t q O) i)) c plain i) R := by
  intro d
  induction d with
  | zero =>
    intro i hi
    refine ev_succ ?_
    simp only [posthouseref6_Suits.l1]
    refine ev_neg (by omega) ?_
    have : rowT t.size (upTo (stp t q O) i) = rowT t.size (stp t q O) := rowT_congr _ fun b hb => by
      unfold upTo
      simp [show b < i by omega]
    rw [this]
    exact hgo
  | succ d ih =>
    intro i hi
    have hnext := ih (i + 1) (by omega)
    have hl := rowT_len t.size O
    have hl2 := rowT_len t.size (upTo (stp t q O) i)
    have hO : ∀ b, b ≤ t.size → rdOf false (rowT t.size O) (b : Int) = O b := fun b hb => rowT_get _ _ b hb
    have hj : ∀ b : Bool, (b = true ↔ q.f0 = 42) → Ev (fun n => posthouseref6_Suits.j5 n p t (rowT t.size O) x6 (rowT t.size (upTo (stp t q O) i)) c plain i b) R := by
      intro b hb
      refine ev_succ ?_
      simp only [posthouseref6_Suits.j5, wN (show i < 9223372036854775807 by omega), wid (show -9223372036854775808 ≤ (i : Int) - 1 by omega) (by omega)]
      by_cases hs : q.f0 = 42
      · refine ev_pos (hb.2 hs) (ev_pos (by omega) (ev_pos (by omega) ?_))
        rw [hO i (by omega)]
        by_cases ho : O i = true
        · refine ev_pos ho (ev_pos (by omega) ?_)
          rw [row_one t _ i true]
          · exact hnext
          · cases i with
            | zero => rw [stp_star0 t hs, ho]
            | succ i => rw [stp_star t hs, ho]; rfl
        · refine ev_neg ho ?_
          simp only [Bool.not_eq_true] at ho
          cases i with
          | zero =>
            refine ev_neg (by omega) (ev_pos (by omega) ?_)
            rw [row_one t _ 0 false]
            · exact hnext
            · rw [stp_star0 t hs, ho]
          | succ i =>
            have e : (((i + 1 : Nat) : Int) - 1) = (i : Int) := by omega
            rw [e]
            refine ev_pos (by omega) (ev_pos (by omega) (ev_pos (by omega) (ev_pos (by omega) ?_)))
            rw [rowT_get _ _ i (by omega), row_one t _ (i + 1) _]
            · exact hnext
            · rw [stp_star t hs, ho]
              unfold upTo
              simp
      · refine ev_neg (fun h => hs (hb.1 h)) ?_
        have hstp : stp t q O i = (decide (0 < i) && O (i - 1) && (decide (q.f0 = 63) || decide (low q.f1 = low (bt t ((i - 1 : Nat) : Int))))) := by
          unfold stp
          rw [if_neg hs]
        cases i with
        | zero =>
          refine ev_neg (by omega) ?_
          rw [row_same t _ 0 (by rw [hstp]; rfl)]
          exact hnext
        | succ i =>
          have e : (((i + 1 : Nat) : Int) - 1) = (i : Int) := by omega
          rw [e]
          simp only [Nat.add_sub_cancel] at hstp
          refine ev_pos (by omega) (ev_pos (by omega) (ev_pos (by omega) ?_))
          rw [hO i (by omega)]
          by_cases ho : O i = true
          · refine ev_pos ho ?_
            rcases hq with ⟨h1, _⟩ | ⟨h1, _, h2⟩ | ⟨h1, h3, h2⟩
            · exact absurd h1 hs
            · refine ev_neg (by rw [h2]; decide) (ev_pos (by omega) (ev_pos (by omega) ?_))
              rw [row_one t _ (i + 1) true]
              · exact hnext
              · rw [hstp, ho]
                simp [h1]
            · have hr := bt_range t i
              rw [alike_some c _ hc0 hc1 hr.1 hr.2]
              simp only [Option.bind_some]
              refine ev_pos h2 (ev_pos (by omega) (ev_pos (by omega) (ev_pos (by omega) ?_)))
              rw [row_one t _ (i + 1) _]
              · exact hnext
              · rw [hstp, ho, h3]
                simp [h1]
          · refine ev_neg ho ?_
            rw [row_same t _ (i + 1) (by rw [hstp]; simp only [Bool.not_eq_true] at ho; rw [ho]; simp)]
            exact hnext
    refine ev_succ ?_
    simp only [posthouseref6_Suits.l1]
    refine ev_pos (by omega) ?_
    rcases hq with ⟨h1, h2, h3⟩ | ⟨h1, h2, h3⟩ | ⟨h1, h2, h3⟩
    · exact ev_neg (by rw [h3]; decide) (hj _ (by rw [h2]; simp [h1]))
    · exact ev_neg (by rw [h3]; decide) (hj _ (by rw [h2]; simp [h1]))
    · exact ev_pos h3 (hj _ (by simp [h1]))
theorem suits_l0 (p : ByteArray) (hp : p.size ≤ 300) (ht : t.size ≤ 4000) : ∀ (d i : Nat), p.size - i ≤ d → i ≤ p.size → ∀ (l : List S56) (O : Nat → Bool), pc ((chars p).drop i) = some l →
    Ev (fun n => posthouseref6_Suits.l0 n p t (rowT t.size O) i) (anyF t O l) := by
  intro d
  have fin : ∀ (i : Nat), p.size ≤ i → i ≤ p.size → ∀ (l : List S56) (O : Nat → Bool), pc ((chars p).drop i) = some l → Ev (fun n => posthouseref6_Suits.l0 n p t (rowT t.size O) i) (anyF t O l) := by
    intro i hi hip l O hpc
    rw [drop_all p hi] at hpc
    obtain rfl := Option.some.inj hpc
    have hl := rowT_len t.size O
    refine ev_succ ?_
    simp only [posthouseref6_Suits.l0]
    refine ev_neg (by omega) (ev_pos (by omega) (ev_pos (by omega) (ev_now ?_)))
    rw [rowT_get _ _ t.size (Nat.le_refl _), Bool.eq_iff_iff, anyF_iff]
    constructor
    · intro h
      exact ⟨t.size, Nat.le_refl _, h, by rw [drop_all t (Nat.le_refl _)]; rfl⟩
    · rintro ⟨j, hj, ho, hf⟩
      by_cases hjn : j < t.size
      · rw [chars_drop t j hjn] at hf
        cases hf
      · obtain rfl : j = t.size := by omega
        exact ho
  induction d with
  | zero => exact fun i hi hip => fin i (by omega) hip
  | succ d ih =>
    intro i hi hip l O hpc
    by_cases hlt : i < p.size
    · have hd := chars_drop p i hlt
      have hr := bt_range p i
      have hr1 := bt_range p ((i + 1 : Nat) : Int)
      have e2 : ((t.size : Int) + 1).toNat = t.size + 1 := by omega
      have hrep : List.replicate (t.size + 1) false = rowT t.size (upTo (fun _ => false) 0) := by
        unfold rowT
        apply List.ext_getElem
        · simp
        · intro y h3 h4
          simp [upTo]
      have hrep2 : ∀ N, List.replicate (t.size + 1) false = rowT t.size (upTo N 0) := by
        intro N
        rw [hrep]
        exact rowT_congr _ fun b _ => by simp [upTo]
      refine ev_succ ?_
      simp only [posthouseref6_Suits.l0, w1 (show (0 : Int) ≤ t.size by omega) (by omega), e2]
      refine ev_pos (by omega) (ev_pos (by omega) (ev_pos (by omega) (ev_some (ev_pos (by omega) ?_))))
      have hj3 : ∀ (x6 : Nat) (c : Int) (plain : Bool) (q : S56) (l' : List S56), 0 ≤ c → c ≤ 255 → Sgn q c plain → l = q :: l' → x6 < p.size → i ≤ x6 → pc ((chars p).drop (x6 + 1)) = some l' →
          Ev (fun n => posthouseref6_Suits.j3 n p t (rowT t.size O) x6 (List.replicate (t.size + 1) false) c plain) (anyF t O l) := by
        intro x6 c plain q l' h0 h1 hs he hx hix hp'
        subst he
        refine ev_succ ?_
        simp only [posthouseref6_Suits.j3]
        rw [hrep2 (stp t q O), anyF_step]
        refine suits_l1 t p ht O q c h0 h1 plain hs x6 _ ?_ (t.size + 1) 0 (by omega)
        rw [wN (show x6 < 9223372036854775807 by omega)]
        exact ih (x6 + 1) (by omega) (by omega) l' _ hp'
      have hj1 : ∀ plain : Bool, (plain = true ↔ ¬ (bt p i = 42 ∨ bt p i = 63)) → Ev (fun n => posthouseref6_Suits.j1 n p t (rowT t.size O) i (List.replicate (t.size + 1) false) (bt p i) plain) (anyF t O l) := by
        intro plain hpl
        rw [hd] at hpc
        refine ev_succ ?_
        simp only [posthouseref6_Suits.j1, wN (show i < 9223372036854775807 by omega)]
        by_cases h92 : bt p i = 92
        · refine ev_pos h92 ?_
          rw [h92] at hpc
          by_cases h1 : i + 1 < p.size
          · rw [chars_drop p (i + 1) h1, pc_esc] at hpc
            obtain ⟨m, hm, rfl⟩ := Option.map_eq_some_iff.1 hpc
            refine ev_succ ?_
            simp only [posthouseref6_Suits.j2, wN (show i < 9223372036854775807 by omega)]
            refine ev_pos (by simp; omega) (ev_pos (by omega) (ev_pos (by omega) ?_))
            exact hj3 (i + 1) _ plain ⟨0, bt p ((i + 1 : Nat) : Int)⟩ m hr1.1 hr1.2 (.inr (.inr ⟨rfl, rfl, hpl.2 (by omega)⟩)) rfl (by omega) (by omega) hm
          · rw [drop_all p (by omega)] at hpc
            cases hpc
        · refine ev_neg h92 (ev_succ ?_)
          simp only [posthouseref6_Suits.j2]
          refine ev_neg (by decide) ?_
          by_cases hsp : bt p i = 42 ∨ bt p i = 63
          · rw [pc_star hsp] at hpc
            obtain ⟨m, hm, rfl⟩ := Option.map_eq_some_iff.1 hpc
            have hf : plain = false := by
              cases plain
              · rfl
              · exact absurd hsp (hpl.1 rfl)
            refine hj3 i _ plain ⟨bt p i, 0⟩ m hr.1 hr.2 ?_ rfl hlt (Nat.le_refl _) hm
            rcases hsp with h | h
            · exact .inl ⟨h, h, hf⟩
            · exact .inr (.inl ⟨h, h, hf⟩)
          · rw [pc_lit hsp h92] at hpc
            obtain ⟨m, hm, rfl⟩ := Option.map_eq_some_iff.1 hpc
            exact hj3 i _ plain ⟨0, bt p i⟩ m hr.1 hr.2 (.inr (.inr ⟨rfl, rfl, hpl.2 hsp⟩)) rfl hlt (Nat.le_refl _) hm
      refine ev_ite (fun h => hj1 false (by simp [h])) (fun h => hj1 _ (by simp [h]))
    · exact fin i (by omega) hip l O hpc
theorem suits_ev (p : ByteArray) (hp : p.size ≤ 300) (ht : t.size ≤ 4000) (l : List S56) (hpc : pc (chars p) = some l) : Ev (fun k => posthouseref6_Suits.f k p t) (fit l (chars t)) := by
  unfold posthouseref6_Suits.f
  have e2 : ((t.size : Int) + 1).toNat = t.size + 1 := by omega
  rw [w1 (show (0 : Int) ≤ t.size by omega) (by omega), e2]
  refine ev_pos (by omega) (ev_pos (by omega) (ev_some (ev_pos (by simp) ?_)))
  have hrow : (List.replicate (t.size + 1) false).set (0 : Int).toNat true = rowT t.size (fun b => decide (b = 0)) := by
    unfold rowT
    apply List.ext_getElem
    · simp
    · intro y h3 h4
      rw [List.getElem_set, List.getElem_map, List.getElem_range]
      by_cases h : y = 0
      · subst h; simp
      · rw [if_neg (by simp; omega)]
        simp [h]
  rw [hrow]
  refine ev_eq (suits_l0 t p hp ht p.size 0 (by omega) (by omega) l (fun b => decide (b = 0)) (by simpa using hpc)) ?_
  rw [Bool.eq_iff_iff, anyF_iff]
  constructor
  · rintro ⟨i, hi, ho, hf⟩
    obtain rfl : i = 0 := by simpa using ho
    simpa using hf
  · intro h
    exact ⟨0, by omega, by simp, by simpa using h⟩
end
theorem chars_suffix (t : ByteArray) (a : Nat) : chars (t.extract a t.size) = (chars t).drop a := by
  rw [chars_extract, List.take_of_length_le (by rw [chars_len]; omega)]
theorem extract_suffix (t : ByteArray) (a i j : Nat) : (t.extract a t.size).extract i j = t.extract (a + i) (a + j) := by
  apply chars_inj
  rw [chars_extract, chars_suffix, chars_extract, ← List.drop_drop, List.drop_take, List.drop_take, List.drop_take]
  congr 1
  omega
theorem cut_suffix (t : ByteArray) (a : Nat) : ∀ (l : List S56) (i : Nat), cut (t.extract a t.size) l i = cut t l (a + i)
  | [], _ => rfl
  | p :: l, i => by
    by_cases h : p.f0 = 42
    · rw [cut_star _ h, cut_star _ h, chars_suffix, List.drop_drop, extract_suffix, cut_suffix t a l]
      rw [Nat.add_assoc]
    · by_cases h0 : p.f0 = 0
      · rw [cut_lit _ h0, cut_lit _ h0, cut_suffix t a l, Nat.add_assoc]
      · rw [cut_any _ h h0, cut_any _ h h0, cut_suffix t a l, extract_suffix, Nat.add_assoc]
/-- What a match answers. -/
def wres (t : ByteArray) (l : List S56) : Bool × List ByteArray := (fit l (chars t), if fit l (chars t) = true then cut t l 0 else [])
theorem wres_len (t : ByteArray) (l : List S56) : (wres t l).2.length ≤ l.length := by
  unfold wres
  dsimp only
  split
  · exact cut_len t l 0
  · simp
theorem refwild_ev : ∀ (m : Nat) (p t : ByteArray) (l : List S56), p.size ≤ m → p.size ≤ 200 → t.size ≤ 4000 → pc (chars p) = some l → Ev (fun k => posthouseref6_Wild.f k p t) (wres t l) := by
  intro m
  induction m with
  | zero =>
    intro p t l hm _ _ hpc
    have hn : chars p = [] := List.length_eq_zero_iff.1 (by rw [chars_len]; omega)
    rw [hn] at hpc
    obtain rfl := Option.some.inj hpc
    refine ev_succ ?_
    simp only [posthouseref6_Wild.f]
    refine ev_pos (toList_nil.2 hn) (ev_now ?_)
    unfold wres
    rw [toList_data]
    simp only [fit, cut]
    cases h : t.data.toList <;> simp [chars, h]
  | succ m ih =>
    intro p t l hm hp ht hpc
    by_cases hz : p.size = 0
    · have hn : chars p = [] := List.length_eq_zero_iff.1 (by rw [chars_len]; omega)
      rw [hn] at hpc
      obtain rfl := Option.some.inj hpc
      refine ev_succ ?_
      simp only [posthouseref6_Wild.f]
      refine ev_pos (toList_nil.2 hn) (ev_now ?_)
      unfold wres
      rw [toList_data]
      simp only [fit, cut]
      cases h : t.data.toList <;> simp [chars, h]
    · have hd := chars_drop p 0 (by omega)
      rw [List.drop_zero] at hd
      simp only [Int.natCast_zero, Nat.zero_add] at hd
      have hne : ¬ p.toList = ([] : List UInt8) := fun h => by rw [toList_nil.1 h] at hd; cases hd
      have hr := bt_range p 0
      have hsz1 : (p.extract 1 p.size).size = p.size - 1 := by rw [ByteArray.size_extract]; omega
      have hc1 : chars (p.extract 1 p.size) = (chars p).drop 1 := chars_suffix p 1
      rw [hd] at hpc
      -- the shorter problems
      have hrec : ∀ (a : Nat) (l' : List S56), a ≤ t.size → pc ((chars p).drop 1) = some l' → Ev (fun k => posthouseref6_Wild.f k (p.extract 1 p.size) (t.extract a t.size)) (fit l' ((chars t).drop a), if fit l' ((chars t).drop a) = true then cut t l' a else []) := by
        intro a l' ha hl'
        have := ih (p.extract 1 p.size) (t.extract a t.size) l' (by omega) (by omega) (by rw [ByteArray.size_extract]; omega) (by rw [hc1]; exact hl')
        unfold wres at this
        rw [chars_suffix, cut_suffix] at this
        simpa using this
      have hlen := fun l' (h : pc ((chars p).drop 1) = some l') => pc_len _ _ (Nat.le_refl _) l' h
      rw [List.length_drop, chars_len] at hlen
      refine ev_succ ?_
      simp only [posthouseref6_Wild.f]
      refine ev_neg hne (ev_pos (by omega) ?_)
      by_cases hs : bt p 0 = 42
      · refine ev_pos hs ?_
        rw [pc_star (.inl hs)] at hpc
        obtain ⟨l', hl', rfl⟩ := Option.map_eq_some_iff.1 hpc
        have hll := hlen l' hl'
        have key : ∀ (d n : Nat), n + d = t.size + 1 → Ev (fun k => posthouseref6_Wild.l0 k p t n) (if n ≤ t.size ∧ starF (fit l') ((chars t).drop n) = true then (true, t.extract 0 (n + least (fit l') ((chars t).drop n)) :: cut t l' (n + least (fit l') ((chars t).drop n))) else (false, [])) := by
          intro d
          induction d with
          | zero =>
            intro n hn
            refine ev_succ ?_
            simp only [posthouseref6_Wild.l0]
            rw [if_neg (by omega)]
            exact ev_neg (by omega) (Ev.now _)
          | succ d ihd =>
            intro n hn
            refine ev_succ ?_
            simp only [posthouseref6_Wild.l0, Int.toNat_natCast, wN (show n < 9223372036854775807 by omega)]
            refine ev_pos (by omega) (ev_pos (by omega) (ev_pos (by omega) ?_))
            refine Ev.bind (suits_ev (t.extract n t.size) (p.extract 1 p.size) (by omega) (by rw [ByteArray.size_extract]; omega) l' (by rw [hc1]; exact hl')) ?_
            rw [chars_suffix]
            by_cases hf : fit l' ((chars t).drop n) = true
            · refine ev_pos hf (Ev.bind (hrec n l' (by omega) hl') (ev_some ?_))
              rw [if_pos hf]
              have hcl := cut_len t l' n
              refine ev_pos (by simp; omega) (ev_now ?_)
              have hst : starF (fit l') ((chars t).drop n) = true := (starF_iff _ _).2 ⟨0, Nat.zero_le _, by simpa using hf⟩
              have hz : least (fit l') ((chars t).drop n) = 0 := by
                rcases hq : (chars t).drop n with _ | ⟨c, r⟩
                · rfl
                · unfold least
                  rw [hq] at hf
                  rw [if_pos hf]
              rw [if_pos ⟨by omega, hst⟩, hz]
              simp
            · refine ev_neg hf (ev_eq (ihd (n + 1) (by omega)) ?_)
              by_cases hn2 : n < t.size
              · have hd2 := chars_drop t n hn2
                rw [hd2] at hf ⊢
                have h1 : starF (fit l') (bt t n :: (chars t).drop (n + 1)) = starF (fit l') ((chars t).drop (n + 1)) := by
                  conv => lhs; unfold starF
                  simp only [Bool.not_eq_true] at hf
                  rw [hf]
                  rfl
                have h2 : least (fit l') (bt t n :: (chars t).drop (n + 1)) = least (fit l') ((chars t).drop (n + 1)) + 1 := by
                  conv => lhs; unfold least
                  rw [if_neg hf]
                rw [h1, h2]
                by_cases hst : starF (fit l') ((chars t).drop (n + 1)) = true
                · rw [if_pos ⟨by omega, hst⟩, if_pos ⟨by omega, hst⟩, show n + 1 + least (fit l') ((chars t).drop (n + 1)) = n + (least (fit l') ((chars t).drop (n + 1)) + 1) by omega]
                · rw [if_neg (fun h => hst h.2), if_neg (fun h => hst h.2)]
              · rw [if_neg (by omega)]
                rw [drop_all t (by omega)] at hf ⊢
                rw [if_neg (fun h => hf h.2)]
        have := key (t.size + 1) 0 (by omega)
        refine ev_eq this ?_
        unfold wres
        rw [fit_star hs, cut_star t hs]
        simp only [List.drop_zero, Nat.zero_add]
        by_cases hst : starF (fit l') (chars t) = true
        · rw [if_pos ⟨by omega, hst⟩, if_pos hst, hst]
        · rw [if_neg (fun h => hst h.2), if_neg hst]
          simp only [Bool.not_eq_true] at hst
          rw [hst]
      · refine ev_neg hs ?_
        -- the empty text
        have hnot : ∀ q l', l = q :: l' → ¬ q.f0 = 42 → chars t = [] → (false, ([] : List ByteArray)) = wres t l := by
          intro q l' hq hq2 ht0
          unfold wres
          rw [hq, ht0, fit_none hq2]
          rfl
        by_cases ht0 : t.size = 0
        · have htn : chars t = [] := List.length_eq_zero_iff.1 (by rw [chars_len]; exact ht0)
          refine ev_pos (toList_nil.2 htn) (ev_now ?_)
          by_cases h63 : bt p 0 = 63
          · rw [pc_star (.inr h63)] at hpc
            obtain ⟨l', _, rfl⟩ := Option.map_eq_some_iff.1 hpc
            exact hnot _ _ rfl hs htn
          · by_cases h92 : bt p 0 = 92
            · rw [h92] at hpc
              by_cases h1 : 1 < p.size
              · rw [chars_drop p 1 h1, pc_esc] at hpc
                obtain ⟨l', _, rfl⟩ := Option.map_eq_some_iff.1 hpc
                exact hnot _ _ rfl (by show ¬ (0 : Int) = 42; decide) htn
              · rw [drop_all p (by omega)] at hpc
                cases hpc
            · rw [pc_lit (by omega) h92] at hpc
              obtain ⟨l', _, rfl⟩ := Option.map_eq_some_iff.1 hpc
              exact hnot _ _ rfl (by show ¬ (0 : Int) = 42; decide) htn
        · have hdt := chars_drop t 0 (by omega)
          rw [List.drop_zero] at hdt
          simp only [Int.natCast_zero, Nat.zero_add] at hdt
          have htne : ¬ t.toList = ([] : List UInt8) := fun h => by rw [toList_nil.1 h] at hdt; cases hdt
          have hrt := bt_range t 0
          refine ev_neg htne ?_
          by_cases h63 : bt p 0 = 63
          · rw [pc_star (.inr h63)] at hpc
            obtain ⟨l', hl', rfl⟩ := Option.map_eq_some_iff.1 hpc
            have hll := hlen l' hl'
            refine ev_pos h63 (ev_pos (by omega) (ev_pos (by omega) (Ev.bind (hrec 1 l' (by omega) hl') ?_)))
            have hw : wres t (⟨bt p 0, 0⟩ :: l') = (fit l' ((chars t).drop 1), if fit l' ((chars t).drop 1) = true then t.extract 0 1 :: cut t l' 1 else []) := by
              unfold wres
              rw [hdt, fit_one (by exact hs), cut_any t (by exact hs) (by show ¬ bt p 0 = 0; omega)]
              simp [h63]
            rw [hw]
            have hcl := cut_len t l' 1
            by_cases hf : fit l' ((chars t).drop 1) = true
            · have h1 : (if fit l' ((chars t).drop 1) = true then cut t l' 1 else []) = cut t l' 1 := if_pos hf
              have h2 : (if fit l' ((chars t).drop 1) = true then t.extract 0 1 :: cut t l' 1 else []) = t.extract 0 1 :: cut t l' 1 := if_pos hf
              rw [h1, h2, hf]
              refine ev_pos rfl (ev_pos (by decide) (ev_some (ev_pos ?_ (ev_now rfl))))
              simp only [List.length_cons, List.length_nil]
              omega
            · have h2 : (if fit l' ((chars t).drop 1) = true then t.extract 0 1 :: cut t l' 1 else []) = [] := if_neg hf
              rw [h2]
              refine ev_neg hf (ev_now ?_)
              simp only [Bool.not_eq_true] at hf
              rw [hf]
          · refine ev_neg h63 ?_
            have hlit : ∀ (c : Int) (l' : List S56), 0 ≤ c → c ≤ 255 → wres t (⟨0, c⟩ :: l') = (if low c = low (bt t 0) then (fit l' ((chars t).drop 1), if fit l' ((chars t).drop 1) = true then cut t l' 1 else []) else (false, [])) := by
              intro c l' _ _
              unfold wres
              rw [hdt, fit_one (by show ¬ (0 : Int) = 42; decide), cut_lit t rfl]
              by_cases hc : low c = low (bt t 0)
              · simp [hc]
              · simp [hc]
            by_cases h92 : bt p 0 = 92
            · refine ev_pos h92 (ev_succ ?_)
              rw [h92] at hpc
              by_cases h1 : 1 < p.size
              · have hr1 := bt_range p 1
                have hd1 := chars_drop p 1 h1
                simp only [Int.natCast_one] at hd1
                rw [hd1, pc_esc] at hpc
                obtain ⟨l', hl', rfl⟩ := Option.map_eq_some_iff.1 hpc
                simp only [posthouseref6_Wild.j1, alike_some _ _ hr1.1 hr1.2 hrt.1 hrt.2, Option.bind_some]
                rw [hlit _ l' hr1.1 hr1.2]
                refine ev_pos (by simp; omega) (ev_pos (by omega) (ev_pos (by omega) ?_))
                by_cases hc : low (bt p 1) = low (bt t 0)
                · rw [if_pos hc]
                  have hc2 : chars (p.extract 2 p.size) = (chars p).drop 2 := chars_suffix p 2
                  have := ih (p.extract 2 p.size) (t.extract 1 t.size) l' (by rw [ByteArray.size_extract]; omega) (by rw [ByteArray.size_extract]; omega) (by rw [ByteArray.size_extract]; omega) (by rw [hc2]; exact hl')
                  unfold wres at this
                  rw [chars_suffix, cut_suffix] at this
                  refine ev_pos (by simpa using hc) (ev_pos (by omega) (ev_pos (by omega) (Ev.bind this (ev_now (by simp)))))
                · rw [if_neg hc]
                  exact ev_neg (by simpa using hc) (Ev.now _)
              · rw [drop_all p (by omega)] at hpc
                cases hpc
            · refine ev_neg h92 (ev_succ ?_)
              rw [pc_lit (by omega) h92] at hpc
              obtain ⟨l', hl', rfl⟩ := Option.map_eq_some_iff.1 hpc
              simp only [posthouseref6_Wild.j1, alike_some _ _ hr.1 hr.2 hrt.1 hrt.2, Option.bind_some]
              rw [hlit _ l' hr.1 hr.2]
              refine ev_neg (by decide) (ev_pos (by omega) (ev_pos (by omega) ?_))
              by_cases hc : low (bt p 0) = low (bt t 0)
              · rw [if_pos hc]
                exact ev_pos (by simpa using hc) (ev_pos (by omega) (ev_pos (by omega) (Ev.bind (hrec 1 l' (by omega) hl') (Ev.now _))))
              · rw [if_neg hc]
                exact ev_neg (by simpa using hc) (Ev.now _)
end Go.Proofs.Ytdnacfnmaieeiaa.Print
