-- Written for this claim by a program of this session, by way of the kit's print: functions as plain Lean, and their calls' contracts.
import Derived.Test.YtdnacfnmaieeiaaKinds
import Derived.Test.YtdnacfnmaieeiaaFposthouseref6alike
namespace Go.Proofs.Ytdnacfnmaieeiaa.Print
open Go.RowKit Go.Proofs.YtdnacfnmaieeiaaW.PrintWords Go.Proofs.YtdnacfnmaieeiaaW.PrintLast Go.Proofs.YtdnacfnmaieeiaaW.PrintMore
attribute [local go_sem] max2_int min2_int max_two min_two max_three min_three max_four min_four   -- for this text's walks alone
set_option linter.unusedVariables false
set_option linter.unusedSimpArgs false

/-! ### posthouseref6_Suits: function 31 -/
mutual
def posthouseref6_Suits.l0 : Nat → ByteArray → ByteArray → List Bool → Int → Option (Bool)
 | 0, _, _, _, _ => none
 | k + 1, x0, x1, x5, x6 => if x6 < (x0.size : Int) then (if 0 ≤ (wrap64 ((x1.size : Int) + 1)) then (if (wrap64 ((x1.size : Int) + 1) : Int).toNat ≤ 281474976710656 then ((some (List.replicate (wrap64 ((x1.size : Int) + 1) : Int).toNat false : List Bool)).bind fun y433 => (if 0 ≤ x6 then (if (bt x0 x6) = 42 then (posthouseref6_Suits.j1 k x0 x1 x5 x6 y433 (bt x0 x6) false) else (posthouseref6_Suits.j1 k x0 x1 x5 x6 y433 (bt x0 x6) ((bt x0 x6) != 63))) else (none))) else (none)) else (none)) else (if 0 ≤ (x1.size : Int) then (if (x1.size : Int) < (x5.length : Int) then (some (rdOf false x5 (x1.size : Int))) else (none)) else (none))
def posthouseref6_Suits.j1 : Nat → ByteArray → ByteArray → List Bool → Int → List Bool → Int → Bool → Option (Bool)
 | 0, _, _, _, _, _, _, _ => none
 | k + 1, x0, x1, x5, x6, x7, x8, x9 => if x8 = 92 then (posthouseref6_Suits.j2 k x0 x1 x5 x6 x7 x8 x9 (decide ((wrap64 (x6 + 1)) < (x0.size : Int)))) else (posthouseref6_Suits.j2 k x0 x1 x5 x6 x7 x8 x9 false)
def posthouseref6_Suits.j2 : Nat → ByteArray → ByteArray → List Bool → Int → List Bool → Int → Bool → Bool → Option (Bool)
 | 0, _, _, _, _, _, _, _, _ => none
 | k + 1, x0, x1, x5, x6, x7, x8, x9, x44 => if x44 = true then (if 0 ≤ (wrap64 (x6 + 1)) then (if (wrap64 (x6 + 1)) < (x0.size : Int) then (posthouseref6_Suits.j3 k x0 x1 x5 (wrap64 (x6 + 1)) x7 (bt x0 (wrap64 (x6 + 1))) x9) else (none)) else (none)) else (posthouseref6_Suits.j3 k x0 x1 x5 x6 x7 x8 x9)
def posthouseref6_Suits.j3 : Nat → ByteArray → ByteArray → List Bool → Int → List Bool → Int → Bool → Option (Bool)
 | 0, _, _, _, _, _, _, _ => none
 | k + 1, x0, x1, x5, x6, x7, x8, x9 => posthouseref6_Suits.l1 k x0 x1 x5 x6 x7 x8 x9 0
def posthouseref6_Suits.l1 : Nat → ByteArray → ByteArray → List Bool → Int → List Bool → Int → Bool → Int → Option (Bool)
 | 0, _, _, _, _, _, _, _, _ => none
 | k + 1, x0, x1, x5, x6, x7, x8, x9, x10 => if x10 ≤ (x1.size : Int) then (if x9 = true then (posthouseref6_Suits.j5 k x0 x1 x5 x6 x7 x8 x9 x10 false) else (posthouseref6_Suits.j5 k x0 x1 x5 x6 x7 x8 x9 x10 (x8 == 42))) else (posthouseref6_Suits.l0 k x0 x1 x7 (wrap64 (x6 + 1)))
def posthouseref6_Suits.j5 : Nat → ByteArray → ByteArray → List Bool → Int → List Bool → Int → Bool → Int → Bool → Option (Bool)
 | 0, _, _, _, _, _, _, _, _, _ => none
 | k + 1, x0, x1, x5, x6, x7, x8, x9, x10, x61 => if x61 = true then (if 0 ≤ x10 then (if x10 < (x5.length : Int) then (if rdOf false x5 x10 = true then (if x10 < (x7.length : Int) then (posthouseref6_Suits.l1 k x0 x1 x5 x6 (x7.set (x10 : Int).toNat true) x8 x9 (wrap64 (x10 + 1))) else (none)) else (if x10 > 0 then (if 0 ≤ (wrap64 (x10 - 1)) then (if (wrap64 (x10 - 1)) < (x7.length : Int) then (if x10 < (x7.length : Int) then (posthouseref6_Suits.l1 k x0 x1 x5 x6 (x7.set (x10 : Int).toNat (rdOf false x7 (wrap64 (x10 - 1)))) x8 x9 (wrap64 (x10 + 1))) else (none)) else (none)) else (none)) else (if x10 < (x7.length : Int) then (posthouseref6_Suits.l1 k x0 x1 x5 x6 (x7.set (x10 : Int).toNat false) x8 x9 (wrap64 (x10 + 1))) else (none)))) else (none)) else (none)) else (if x10 > 0 then (if 0 ≤ (wrap64 (x10 - 1)) then (if (wrap64 (x10 - 1)) < (x5.length : Int) then (if rdOf false x5 (wrap64 (x10 - 1)) = true then (if x9 = true then (if (wrap64 (x10 - 1)) < (x1.size : Int) then ((posthouseref6_alike.f x8 (bt x1 (wrap64 (x10 - 1)))).bind fun t442 => (if 0 ≤ x10 then (if x10 < (x7.length : Int) then (posthouseref6_Suits.l1 k x0 x1 x5 x6 (x7.set (x10 : Int).toNat t442) x8 x9 (wrap64 (x10 + 1))) else (none)) else (none))) else (none)) else (if 0 ≤ x10 then (if x10 < (x7.length : Int) then (posthouseref6_Suits.l1 k x0 x1 x5 x6 (x7.set (x10 : Int).toNat true) x8 x9 (wrap64 (x10 + 1))) else (none)) else (none))) else (posthouseref6_Suits.l1 k x0 x1 x5 x6 x7 x8 x9 (wrap64 (x10 + 1)))) else (none)) else (none)) else (posthouseref6_Suits.l1 k x0 x1 x5 x6 x7 x8 x9 (wrap64 (x10 + 1))))
end
def posthouseref6_Suits.f (k : Nat) (a0 : ByteArray) (a1 : ByteArray) : Option (Bool) := if 0 ≤ (wrap64 ((a1.size : Int) + 1)) then (if (wrap64 ((a1.size : Int) + 1) : Int).toNat ≤ 281474976710656 then ((some (List.replicate (wrap64 ((a1.size : Int) + 1) : Int).toNat false : List Bool)).bind fun y428 => (if 0 < (y428.length : Int) then (posthouseref6_Suits.l0 k a0 a1 (y428.set (0 : Int).toNat true) 0) else (none))) else (none)) else (none)
theorem posthouseref6_Suits.mono_l : ∀ k, (∀ y0 y1 y2 y3, LeO (posthouseref6_Suits.l0 k y0 y1 y2 y3) (posthouseref6_Suits.l0 (k + 1) y0 y1 y2 y3)) ∧ (∀ y0 y1 y2 y3 y4 y5 y6, LeO (posthouseref6_Suits.j1 k y0 y1 y2 y3 y4 y5 y6) (posthouseref6_Suits.j1 (k + 1) y0 y1 y2 y3 y4 y5 y6)) ∧ (∀ y0 y1 y2 y3 y4 y5 y6 y7, LeO (posthouseref6_Suits.j2 k y0 y1 y2 y3 y4 y5 y6 y7) (posthouseref6_Suits.j2 (k + 1) y0 y1 y2 y3 y4 y5 y6 y7)) ∧ (∀ y0 y1 y2 y3 y4 y5 y6, LeO (posthouseref6_Suits.j3 k y0 y1 y2 y3 y4 y5 y6) (posthouseref6_Suits.j3 (k + 1) y0 y1 y2 y3 y4 y5 y6)) ∧ (∀ y0 y1 y2 y3 y4 y5 y6 y7, LeO (posthouseref6_Suits.l1 k y0 y1 y2 y3 y4 y5 y6 y7) (posthouseref6_Suits.l1 (k + 1) y0 y1 y2 y3 y4 y5 y6 y7)) ∧ (∀ y0 y1 y2 y3 y4 y5 y6 y7 y8, LeO (posthouseref6_Suits.j5 k y0 y1 y2 y3 y4 y5 y6 y7 y8) (posthouseref6_Suits.j5 (k + 1) y0 y1 y2 y3 y4 y5 y6 y7 y8))
 | 0 => ⟨fun _ _ _ _ r h => by simp [posthouseref6_Suits.l0] at h, fun _ _ _ _ _ _ _ r h => by simp [posthouseref6_Suits.j1] at h, fun _ _ _ _ _ _ _ _ r h => by simp [posthouseref6_Suits.j2] at h, fun _ _ _ _ _ _ _ r h => by simp [posthouseref6_Suits.j3] at h, fun _ _ _ _ _ _ _ _ r h => by simp [posthouseref6_Suits.l1] at h, fun _ _ _ _ _ _ _ _ _ r h => by simp [posthouseref6_Suits.j5] at h⟩
 | k + 1 => by
  obtain ⟨ih0, ih1, ih2, ih3, ih4, ih5⟩ := posthouseref6_Suits.mono_l k
  refine ⟨?_, ?_, ?_, ?_, ?_, ?_⟩
  ·
   intro y0 y1 y2 y3
   unfold posthouseref6_Suits.l0
   repeat' first
   | (with_reducible exact ih0 _ _ _ _)
   | (with_reducible exact ih1 _ _ _ _ _ _ _)
   | (with_reducible exact ih2 _ _ _ _ _ _ _ _)
   | (with_reducible exact ih3 _ _ _ _ _ _ _)
   | (with_reducible exact ih4 _ _ _ _ _ _ _ _)
   | (with_reducible exact ih5 _ _ _ _ _ _ _ _ _)
   | (with_reducible exact LeO.refl _)
   | (with_reducible exact LeO.none _)
   | (with_reducible refine LeO.ite ?_ ?_)
   | (with_reducible refine LeO.bind ?_ (fun _ => ?_))
   | exact ih0 _ _ _ _
   | exact ih1 _ _ _ _ _ _ _
   | exact ih2 _ _ _ _ _ _ _ _
   | exact ih3 _ _ _ _ _ _ _
   | exact ih4 _ _ _ _ _ _ _ _
   | exact ih5 _ _ _ _ _ _ _ _ _
   | exact LeO.none _
   | refine LeO.ite ?_ ?_
   | refine LeO.bind ?_ (fun _ => ?_)
  ·
   intro y0 y1 y2 y3 y4 y5 y6
   unfold posthouseref6_Suits.j1
   repeat' first
   | (with_reducible exact ih0 _ _ _ _)
   | (with_reducible exact ih1 _ _ _ _ _ _ _)
   | (with_reducible exact ih2 _ _ _ _ _ _ _ _)
   | (with_reducible exact ih3 _ _ _ _ _ _ _)
   | (with_reducible exact ih4 _ _ _ _ _ _ _ _)
   | (with_reducible exact ih5 _ _ _ _ _ _ _ _ _)
   | (with_reducible exact LeO.refl _)
   | (with_reducible exact LeO.none _)
   | (with_reducible refine LeO.ite ?_ ?_)
   | (with_reducible refine LeO.bind ?_ (fun _ => ?_))
   | exact ih0 _ _ _ _
   | exact ih1 _ _ _ _ _ _ _
   | exact ih2 _ _ _ _ _ _ _ _
   | exact ih3 _ _ _ _ _ _ _
   | exact ih4 _ _ _ _ _ _ _ _
   | exact ih5 _ _ _ _ _ _ _ _ _
   | exact LeO.none _
   | refine LeO.ite ?_ ?_
   | refine LeO.bind ?_ (fun _ => ?_)
  ·
   intro y0 y1 y2 y3 y4 y5 y6 y7
   unfold posthouseref6_Suits.j2
   repeat' first
   | (with_reducible exact ih0 _ _ _ _)
   | (with_reducible exact ih1 _ _ _ _ _ _ _)
   | (with_reducible exact ih2 _ _ _ _ _ _ _ _)
   | (with_reducible exact ih3 _ _ _ _ _ _ _)
   | (with_reducible exact ih4 _ _ _ _ _ _ _ _)
   | (with_reducible exact ih5 _ _ _ _ _ _ _ _ _)
   | (with_reducible exact LeO.refl _)
   | (with_reducible exact LeO.none _)
   | (with_reducible refine LeO.ite ?_ ?_)
   | (with_reducible refine LeO.bind ?_ (fun _ => ?_))
   | exact ih0 _ _ _ _
   | exact ih1 _ _ _ _ _ _ _
   | exact ih2 _ _ _ _ _ _ _ _
   | exact ih3 _ _ _ _ _ _ _
   | exact ih4 _ _ _ _ _ _ _ _
   | exact ih5 _ _ _ _ _ _ _ _ _
   | exact LeO.none _
   | refine LeO.ite ?_ ?_
   | refine LeO.bind ?_ (fun _ => ?_)
  ·
   intro y0 y1 y2 y3 y4 y5 y6
   unfold posthouseref6_Suits.j3
   repeat' first
   | (with_reducible exact ih0 _ _ _ _)
   | (with_reducible exact ih1 _ _ _ _ _ _ _)
   | (with_reducible exact ih2 _ _ _ _ _ _ _ _)
   | (with_reducible exact ih3 _ _ _ _ _ _ _)
   | (with_reducible exact ih4 _ _ _ _ _ _ _ _)
   | (with_reducible exact ih5 _ _ _ _ _ _ _ _ _)
   | (with_reducible exact LeO.refl _)
   | (with_reducible exact LeO.none _)
   | (with_reducible refine LeO.ite ?_ ?_)
   | (with_reducible refine LeO.bind ?_ (fun _ => ?_))
   | exact ih0 _ _ _ _
   | exact ih1 _ _ _ _ _ _ _
   | exact ih2 _ _ _ _ _ _ _ _
   | exact ih3 _ _ _ _ _ _ _
   | exact ih4 _ _ _ _ _ _ _ _
   | exact ih5 _ _ _ _ _ _ _ _ _
   | exact LeO.none _
   | refine LeO.ite ?_ ?_
   | refine LeO.bind ?_ (fun _ => ?_)
  ·
   intro y0 y1 y2 y3 y4 y5 y6 y7
   unfold posthouseref6_Suits.l1
   repeat' first
   | (with_reducible exact ih0 _ _ _ _)
   | (with_reducible exact ih1 _ _ _ _ _ _ _)
   | (with_reducible exact ih2 _ _ _ _ _ _ _ _)
   | (with_reducible exact ih3 _ _ _ _ _ _ _)
   | (with_reducible exact ih4 _ _ _ _ _ _ _ _)
   | (with_reducible exact ih5 _ _ _ _ _ _ _ _ _)
   | (with_reducible exact LeO.refl _)
   | (with_reducible exact LeO.none _)
   | (with_reducible refine LeO.ite ?_ ?_)
   | (with_reducible refine LeO.bind ?_ (fun _ => ?_))
   | exact ih0 _ _ _ _
   | exact ih1 _ _ _ _ _ _ _
   | exact ih2 _ _ _ _ _ _ _ _
   | exact ih3 _ _ _ _ _ _ _
   | exact ih4 _ _ _ _ _ _ _ _
   | exact ih5 _ _ _ _ _ _ _ _ _
   | exact LeO.none _
   | refine LeO.ite ?_ ?_
   | refine LeO.bind ?_ (fun _ => ?_)
  ·
   intro y0 y1 y2 y3 y4 y5 y6 y7 y8
   unfold posthouseref6_Suits.j5
   repeat' first
   | (with_reducible exact ih0 _ _ _ _)
   | (with_reducible exact ih1 _ _ _ _ _ _ _)
   | (with_reducible exact ih2 _ _ _ _ _ _ _ _)
   | (with_reducible exact ih3 _ _ _ _ _ _ _)
   | (with_reducible exact ih4 _ _ _ _ _ _ _ _)
   | (with_reducible exact ih5 _ _ _ _ _ _ _ _ _)
   | (with_reducible exact LeO.refl _)
   | (with_reducible exact LeO.none _)
   | (with_reducible refine LeO.ite ?_ ?_)
   | (with_reducible refine LeO.bind ?_ (fun _ => ?_))
   | exact ih0 _ _ _ _
   | exact ih1 _ _ _ _ _ _ _
   | exact ih2 _ _ _ _ _ _ _ _
   | exact ih3 _ _ _ _ _ _ _
   | exact ih4 _ _ _ _ _ _ _ _
   | exact ih5 _ _ _ _ _ _ _ _ _
   | exact LeO.none _
   | refine LeO.ite ?_ ?_
   | refine LeO.bind ?_ (fun _ => ?_)
theorem posthouseref6_Suits.mono : ∀ a0 a1 k, LeO (posthouseref6_Suits.f k a0 a1) (posthouseref6_Suits.f (k + 1) a0 a1) := by
 intro a0 a1 k
 obtain ⟨ih0, ih1, ih2, ih3, ih4, ih5⟩ := posthouseref6_Suits.mono_l k
 unfold posthouseref6_Suits.f
 repeat' first
   | (with_reducible exact ih0 _ _ _ _)
   | (with_reducible exact ih1 _ _ _ _ _ _ _)
   | (with_reducible exact ih2 _ _ _ _ _ _ _ _)
   | (with_reducible exact ih3 _ _ _ _ _ _ _)
   | (with_reducible exact ih4 _ _ _ _ _ _ _ _)
   | (with_reducible exact ih5 _ _ _ _ _ _ _ _ _)
   | (with_reducible exact LeO.refl _)
   | (with_reducible exact LeO.none _)
   | (with_reducible refine LeO.ite ?_ ?_)
   | (with_reducible refine LeO.bind ?_ (fun _ => ?_))
   | exact ih0 _ _ _ _
   | exact ih1 _ _ _ _ _ _ _
   | exact ih2 _ _ _ _ _ _ _ _
   | exact ih3 _ _ _ _ _ _ _
   | exact ih4 _ _ _ _ _ _ _ _
   | exact ih5 _ _ _ _ _ _ _ _ _
   | exact LeO.none _
   | refine LeO.ite ?_ ?_
   | refine LeO.bind ?_ (fun _ => ?_)
set_option maxHeartbeats 8000000 in
set_option maxRecDepth 100000 in
theorem posthouseref6_Suits.calls (k : Nat) (a0 : ByteArray) (a1 : ByteArray) (r : Bool) (w : World) (h : posthouseref6_Suits.f k a0 a1 = some r) :
  Calls Try.prog 31 #[.string a0, .string a1] w fun e w' => e = .returned (.bool r) ∧ Below w.heap.size w w' := by
 have HB := Aside0.mk (Below.refl w.heap.size w)
 have H : (if 0 ≤ (wrap64 ((a1.size : Int) + 1)) then (if (wrap64 ((a1.size : Int) + 1) : Int).toNat ≤ 281474976710656 then ((some (List.replicate (wrap64 ((a1.size : Int) + 1) : Int).toNat false : List Bool)).bind fun y428 => (if 0 < (y428.length : Int) then (posthouseref6_Suits.l0 k a0 a1 (y428.set (0 : Int).toNat true) 0) else (none))) else (none)) else (none)) = some r := h
 clear h
 obtain ⟨ji3, hji3⟩ : ∃ j_ : Int, (wrap64 ((a1.size : Int) + 1)) = j_ := ⟨_, rfl⟩
 replace H : (if 0 ≤ (ji3) then (if (ji3 : Int).toNat ≤ 281474976710656 then ((some (List.replicate (ji3 : Int).toNat false : List Bool)).bind fun y428 => (if 0 < (y428.length : Int) then (posthouseref6_Suits.l0 k a0 a1 (y428.set (0 : Int).toNat true) 0) else (none))) else (none)) else (none)) = some r := by first | (rw [hji3] at H; exact H) | (simp only [hji3] at H ⊢; exact H)
 have hji3w : (IntKind.i64.wrap ((a1.size : Int) + 1)) = ji3 := (i64_w _).trans hji3
 by_cases c4 : 0 ≤ (ji3)
 rotate_left
 ·
  rw [if_neg c4] at H
  exact absurd H (by simp)
 rw [if_pos c4] at H
 have c4b0 := eq_true c4
 have c4b1 : decide (0 ≤ (ji3)) = true := decide_eq_true c4
 clear c4
 by_cases c5 : (ji3 : Int).toNat ≤ 281474976710656
 rotate_left
 ·
  rw [if_neg c5] at H
  exact absurd H (by simp)
 rw [if_pos c5] at H
 have c5b0 := eq_true c5
 have c5b1 : decide ((ji3 : Int).toNat ≤ 281474976710656) = true := decide_eq_true c5
 clear c5
 obtain ⟨y428, hy428⟩ : ∃ y_ : List Bool, y_ = (List.replicate (ji3 : Int).toNat false) := ⟨_, rfl⟩
 replace H : (if 0 < (y428.length : Int) then (posthouseref6_Suits.l0 k a0 a1 (y428.set (0 : Int).toNat true) 0) else (none)) = some r := by first | (rw [hy428]; with_reducible exact H) | (have H2_ := (Option.bind_some _ _).symm.trans H; rw [hy428]; with_reducible exact H2_) | (have H2_ := (Option.bind_some _ _).symm.trans H; with_reducible exact H2_) | with_reducible exact H | (rw [hy428]; exact H) | exact H
 have Ny428 := Aside0.mk hy428
 clear hy428
 by_cases c6 : 0 < (y428.length : Int)
 rotate_left
 ·
  rw [if_neg c6] at H
  exact absurd H (by simp)
 rw [if_pos c6] at H
 have c6b0 : decide (0 < (y428.length : Int)) = true := decide_eq_true c6
 have c6b1 : decide (0 < y428.length) = true := decide_eq_true (by omega)
 clear c6
 obtain ⟨y431, hy431⟩ : ∃ y_ : List Bool, y_ = (y428.set (0 : Int).toNat true) := ⟨_, rfl⟩
 replace H : (posthouseref6_Suits.l0 k a0 a1 y431 0) = some r := by first | (rw [hy431]; with_reducible exact H) | (have H2_ := (Option.bind_some _ _).symm.trans H; rw [hy431]; with_reducible exact H2_) | (have H2_ := (Option.bind_some _ _).symm.trans H; with_reducible exact H2_) | with_reducible exact H | (rw [hy431]; exact H) | exact H
 have Ny431 := Aside0.mk hy431
 clear hy431
 have H' := Aside0.mk H
 clear H
 go_enter Try.func31, Try.ntmps31
 go_wp2_with (first | ((with_reducible refine gate_dst (N := 14) rfl ?_); (try (refine gate_guard (by rfl) ?_; dsimp only)); refine Kd.R_make Kd.bool _ 4 rfl (N := 14) rfl 58 _ _ rfl ji3 rfl rfl Try.underlying58 (.bool false) 1 info4 rfl (by decide) (by omega) false (ok := fun _ => True) (okp := fun _ => True) rfl (fun _ hk => hk) trivial (of_decide_eq_true (by first | (with_reducible assumption) | assumption)) (Nat.le_trans (Nat.mul_le_mul_right _ (of_decide_eq_true (by first | (with_reducible assumption) | assumption) : ji3.toNat ≤ 281474976710656)) (by omega)) (Below.refl _ _) (Nat.le_refl _) ?_; intro v429 w8 ho9 hb hg_ hnew_; clear hg_ hnew_; (first | rw [← Ny428.out] at ho9 | (simp only [Int.reduceToNat] at ho9; rw [← Ny428.out] at ho9)); have n0_ := Aside0.mk (Kd.R_lower ho9 (below_size (by repeat (first | (with_reducible first | exact HB.out | apply below_alloc | apply pw_below_drewN | apply below_drew1) | exact HB.out)))); have n1_ := Aside0.mk (below_step (by repeat (first | (with_reducible first | exact HB.out | apply below_alloc | apply pw_below_drewN | apply below_drew1) | exact HB.out)) hb); clear HB; have HO430 := n0_; have HB := n1_; clear n0_ n1_; clear hb ho9; have p7 : 0 ≤ (0 : Int) := (by omega); have q7 : (0 : Int) < ((y428.length : Int) : Int) := of_decide_eq_true (by first | (with_reducible assumption) | assumption); have qi7 : (0 < y428.length) = True := eq_true (by omega); obtain ⟨go7, co7, eo7, gb7, gl7, cl7, HG7⟩ := Kd.R_form HO430.out (by omega); (first | cases eo7 | (injection eo7 with ea_ en_ ec_; (first | subst ea_ | (injection ea_ with ea_; subst ea_)); subst ec_; clear en_)); have GB7 := Aside0.mk gb7; have GG7 := Aside0.mk HG7; clear gb7 gl7 HG7; obtain ⟨hx7_0, hf7_0⟩ := Kd.R_celln false HO430.out (0 : Int) p7 q7; (try rw [show ((0 : Int)).toNat = 0 from rfl] at hx7_0); (try simp only [Nat.reduceMul, Nat.zero_mul, Nat.zero_add, Nat.reduceAdd] at hx7_0); (try rw [show ((0 : Int)).toNat = 0 from rfl] at hf7_0); (try simp only [Nat.reduceMul, Nat.zero_mul, Nat.zero_add, Nat.reduceAdd] at hf7_0); replace p7 := eq_true p7; replace q7 := eq_true q7; obtain ⟨hy10_, hz10_⟩ := Kd.R_celln false HO430.out (0 : Int) (by omega) (of_decide_eq_true (by first | (with_reducible assumption) | assumption)); (try simp only [Int.reduceToNat, Int.toNat_zero, Int.toNat_ofNat, Nat.reduceMul, Nat.zero_mul, Nat.zero_add] at hy10_ hz10_); (try rw [show ((0 : Int)).toNat = 0 from rfl] at hy10_); (try rw [show ((0 : Int)).toNat = 0 from rfl] at hz10_); have HP10 := Kd.R_putg HO430.out (0 : Int) true) | ((with_reducible refine gate_store (t := 4) (p := 16) rfl ?_); refine store_event (t := 4) (p := 16) (v := ?vo_w11) (w1 := (w8.setCell ⟨go7, (0 : Int).toNat, none⟩ (.bool true))) ?hg ?ho ?hn ?hr ?_; (case ho => rfl); (case hg => rfl); (case hn => rfl); (case hr => first | (go_simp; done) | (go_simp; rfl)); intro w11 hw; have hg : w8.grownBy w11 (some go7) := (by rw [hw]; exact HP10.2); have hp_ : Kd.R Kd.bool 4 w11 w.heap.size (fun _ => True) (.slice (some ⟨go7, 0, none⟩) y428.length co7) y431 := (by rw [hw, Ny431.out]; exact HP10.1); clear HP10; have n0_ := Aside0.mk (hp_); have n1_ := Aside0.mk ((by rw [hw]; exact below_set (HB.out) GB7.out : Below w.heap.size w w11)); clear HO430; clear HB; have HO430 := n0_; have HB := n1_; clear n0_ n1_; clear hg hw hp_))
 go_loopg [5, 6] k (fun kq v5 v6 w' => ∃ (x5_1 : List Bool) (x6_1 : Int), v6 = .int .i64 x6_1 ∧ Aside0 (posthouseref6_Suits.l0 kq a0 a1 x5_1 x6_1 = some r) ∧ Aside0 (kq ≤ k) ∧ Aside0 (Kd.R Kd.bool 4 w' w.heap.size (fun _ => True) v5 x5_1) ∧ Aside0 (Below w.heap.size w w'))
 case atStart => exact ⟨(y431), (0), (by first | rfl | (simp; done) | (simp [*]; done)), H', ⟨Nat.le_refl _⟩, ⟨by (with_reducible repeat (first | apply Kd.R_alloc | apply Kd.R_drewN | apply Kd.R_drew)); exact HO430.out⟩, ⟨by repeat (first | (with_reducible first | exact HB.out | apply below_alloc | apply pw_below_drewN | apply below_drew1) | exact HB.out)⟩⟩
 case round =>
  clear H'
  (try clear p2); (try clear c3); (try clear c4); (try clear c4b0); (try clear c4b1); (try clear c5); (try clear c5b0); (try clear c5b1); (try clear c6); (try clear c6b0); (try clear c6b1); (try clear p6); (try clear p7); (try clear q7); (try clear hx7); (try clear qi7); (try clear hf7); (try clear hx7_0); (try clear p7); (try clear q7)
  obtain ⟨x5_1, x6_1, rfl, HA, HK1, HO_5, HB⟩ := hrel
  cases gk with
  | zero => exact absurd HA.out (by simp [posthouseref6_Suits.l0])
  | succ k1 =>
   have H := HA.out
   clear HA
   simp only [posthouseref6_Suits.l0] at H
   by_cases c12 : x6_1 < (a0.size : Int)
   rotate_left
   ·
    rw [if_neg c12] at H
    have c12b0 : decide (x6_1 < (a0.size : Int)) = false := decide_eq_false c12
    clear c12
    by_cases c81 : 0 ≤ (a1.size : Int)
    rotate_left
    ·
     rw [if_neg c81] at H
     exact absurd H (by simp)
    rw [if_pos c81] at H
    have c81b0 : decide (0 ≤ (a1.size : Int)) = true := decide_eq_true c81
    have c81b1 : decide (0 ≤ a1.size) = true := decide_eq_true (by omega)
    clear c81
    by_cases c82 : (a1.size : Int) < (x5_1.length : Int)
    rotate_left
    ·
     rw [if_neg c82] at H
     exact absurd H (by simp)
    rw [if_pos c82] at H
    have c82b0 : decide ((a1.size : Int) < (x5_1.length : Int)) = true := decide_eq_true c82
    have c82b1 : decide (a1.size < x5_1.length) = true := decide_eq_true (Int.ofNat_lt.mp c82)
    clear c82
    obtain rfl := Option.some.inj H
    obtain ⟨Ao83, co83, eo83⟩ := Kd.R_slice HO_5.out
    subst eo83
    have p432 : 0 ≤ ((a1.size : Int) : Int) := of_decide_eq_true (by first | (with_reducible assumption) | assumption)
    have q432 : (a1.size : Int) < (x5_1.length : Int) := of_decide_eq_true (by first | (with_reducible assumption) | assumption)
    obtain ⟨ad432, e432, hx432_0⟩ := Kd.at_bool (Kd.R_reads' HO_5.out).2.2 (a1.size : Int) p432 q432
    cases e432
    (try simp only [Go.IntWalk.toNatUp] at hx432_0)
    replace p432 := eq_true p432
    replace q432 := eq_true q432
    go_wp2
    go_ret
    exact ⟨by first | rfl | (simp [errW_none, errW_some] <;> rfl) | (simp only [← hji3]; first | rfl | (simp [errW_none, errW_some] <;> rfl)) | (simp [*, errW_none, errW_some] <;> rfl), by repeat (first | (with_reducible first | exact HB.out | apply below_alloc | apply pw_below_drewN | apply below_drew1) | exact HB.out)⟩
   rw [if_pos c12] at H
   have c12b0 : decide (x6_1 < (a0.size : Int)) = true := decide_eq_true c12
   clear c12
   clear hji3w hji3
   obtain ⟨ji13, hji13⟩ : ∃ j_ : Int, (wrap64 ((a1.size : Int) + 1)) = j_ := ⟨_, rfl⟩
   replace H : (if 0 ≤ (ji13) then (if (ji13 : Int).toNat ≤ 281474976710656 then ((some (List.replicate (ji13 : Int).toNat false : List Bool)).bind fun y433 => (if 0 ≤ x6_1 then (if (bt a0 x6_1) = 42 then (posthouseref6_Suits.j1 k1 a0 a1 x5_1 x6_1 y433 (bt a0 x6_1) false) else (posthouseref6_Suits.j1 k1 a0 a1 x5_1 x6_1 y433 (bt a0 x6_1) ((bt a0 x6_1) != 63))) else (none))) else (none)) else (none)) = some r := by first | (rw [hji13] at H; exact H) | (simp only [hji13] at H ⊢; exact H)
   have hji13w : (IntKind.i64.wrap ((a1.size : Int) + 1)) = ji13 := (i64_w _).trans hji13
   by_cases c14 : 0 ≤ (ji13)
   rotate_left
   ·
    rw [if_neg c14] at H
    exact absurd H (by simp)
   rw [if_pos c14] at H
   have c14b0 := eq_true c14
   have c14b1 : decide (0 ≤ (ji13)) = true := decide_eq_true c14
   clear c14
   by_cases c15 : (ji13 : Int).toNat ≤ 281474976710656
   rotate_left
   ·
    rw [if_neg c15] at H
    exact absurd H (by simp)
   rw [if_pos c15] at H
   have c15b0 := eq_true c15
   have c15b1 : decide ((ji13 : Int).toNat ≤ 281474976710656) = true := decide_eq_true c15
   clear c15
   obtain ⟨y433, hy433⟩ : ∃ y_ : List Bool, y_ = (List.replicate (ji13 : Int).toNat false) := ⟨_, rfl⟩
   replace H : (if 0 ≤ x6_1 then (if (bt a0 x6_1) = 42 then (posthouseref6_Suits.j1 k1 a0 a1 x5_1 x6_1 y433 (bt a0 x6_1) false) else (posthouseref6_Suits.j1 k1 a0 a1 x5_1 x6_1 y433 (bt a0 x6_1) ((bt a0 x6_1) != 63))) else (none)) = some r := by first | (rw [hy433]; with_reducible exact H) | (have H2_ := (Option.bind_some _ _).symm.trans H; rw [hy433]; with_reducible exact H2_) | (have H2_ := (Option.bind_some _ _).symm.trans H; with_reducible exact H2_) | with_reducible exact H | (rw [hy433]; exact H) | exact H
   have Ny433 := Aside0.mk hy433
   clear hy433
   by_cases c16 : 0 ≤ x6_1
   rotate_left
   ·
    rw [if_neg c16] at H
    exact absurd H (by simp)
   rw [if_pos c16] at H
   have c16b0 : decide (0 ≤ x6_1) = true := decide_eq_true c16
   clear c16
   have HC18 := Aside0.mk H
   clear H
   go_upto_region 8 with (first | ((with_reducible refine gate_dst (N := 26) rfl ?_); (try (refine gate_guard (by rfl) ?_; dsimp only)); refine Kd.R_make Kd.bool _ 4 rfl (N := 26) rfl 58 _ _ rfl ji13 rfl rfl Try.underlying58 (.bool false) 1 info4 rfl (by decide) (by omega) false (ok := fun _ => True) (okp := fun _ => True) rfl (fun _ hk => hk) trivial (of_decide_eq_true (by first | (with_reducible assumption) | assumption)) (Nat.le_trans (Nat.mul_le_mul_right _ (of_decide_eq_true (by first | (with_reducible assumption) | assumption) : ji13.toNat ≤ 281474976710656)) (by omega)) (Below.refl _ _) (Nat.le_refl _) ?_; intro v434 w19 ho20 hb hg_ hnew_; clear hg_ hnew_; (first | rw [← Ny433.out] at ho20 | (simp only [Int.reduceToNat] at ho20; rw [← Ny433.out] at ho20)); have n0_ := Aside0.mk (Kd.R_elder' (by (with_reducible repeat (first | apply Kd.R_alloc | apply Kd.R_drewN | apply Kd.R_drew)); exact HO_5.out) (Kd.R_base ho20) hb); have n1_ := Aside0.mk (Kd.R_lower (Kd.R_new' ho20 (Kd.R_lt (by (with_reducible repeat (first | apply Kd.R_alloc | apply Kd.R_drewN | apply Kd.R_drew)); exact HO_5.out))) (below_size (by repeat (first | (with_reducible first | exact HB.out | apply below_alloc | apply pw_below_drewN | apply below_drew1) | exact HB.out)))); have n2_ := Aside0.mk (below_step (by repeat (first | (with_reducible first | exact HB.out | apply below_alloc | apply pw_below_drewN | apply below_drew1) | exact HB.out)) hb); clear HO_5; clear HB; have HO_5 := n0_; have HO435 := n1_; have HB := n2_; clear n0_ n1_ n2_; clear hb ho20; have p17 : 0 ≤ (x6_1 : Int) := of_decide_eq_true (by first | (with_reducible assumption) | assumption); have q17 : x6_1 < (a0.size : Int) := of_decide_eq_true (by first | (with_reducible assumption) | assumption); have hx17 := bt_at a0 x6_1; replace p17 := eq_true p17; replace q17 := eq_true q17))
   (try simp only [Act.put, List.setIfInBounds_toArray, List.set_cons_zero, List.set_cons_succ])
   go_cut [9] (fun v9 wc => ∃ (kq : Nat) (x9_17 : Bool), v9 = .bool x9_17 ∧ Aside0 (posthouseref6_Suits.j1 kq a0 a1 x5_1 x6_1 y433 (bt a0 x6_1) x9_17 = some r) ∧ Aside0 (kq ≤ k1) ∧ Aside0 (Kd.R Kd.bool 4 wc w.heap.size (fun k_ => some k_ ≠ (v434 : Value).ownBlock) u5 x5_1) ∧ Aside0 (Kd.R Kd.bool 4 wc w.heap.size (fun k_ => some k_ ≠ (u5 : Value).ownBlock) v434 y433) ∧ Aside0 (Below w.heap.size w wc))
   case first =>
    have H := HC18.out
    clear HC18
    by_cases c21 : (bt a0 x6_1) = 42
    rotate_left
    ·
     rw [if_neg c21] at H
     have c21b0 : ((bt a0 x6_1) == 42) = false := beq_eq_false_iff_ne.mpr c21
     have c21b1 : ((bt a0 x6_1) != 42) = true := bne_iff_ne.mpr c21
     (first | rw [c21b0] | (simp only [i64_w, i32_w]; rw [c21b0]) | skip)
     have H' := Aside0.mk H
     clear H
     go_wp2
     go_meet
     case rel => exact ⟨_, (((bt a0 x6_1) != 63)), (by first | rfl | (simp; done) | (simp [*]; done)), H', ⟨by have := HK1.out; first | omega | exact Nat.le_refl _⟩, ⟨by (with_reducible repeat (first | apply Kd.R_alloc | apply Kd.R_drewN | apply Kd.R_drew)); exact Kd.R_mono HO_5.out (fun _ hk => hk.2)⟩, ⟨by (with_reducible repeat (first | apply Kd.R_alloc | apply Kd.R_drewN | apply Kd.R_drew)); exact Kd.R_mono HO435.out (fun _ hk => hk.2)⟩, ⟨by repeat (first | (with_reducible first | exact HB.out | apply below_alloc | apply pw_below_drewN | apply below_drew1) | exact HB.out)⟩⟩
    rw [if_pos c21] at H
    have c21b0 : ((bt a0 x6_1) == 42) = true := beq_iff_eq.mpr c21
    have c21b1 : ((bt a0 x6_1) != 42) = false := bne_eq_false_iff_eq.mpr c21
    clear c21
    (first | rw [c21b0] | (simp only [i64_w, i32_w]; rw [c21b0]) | skip)
    have H' := Aside0.mk H
    clear H
    go_wp2
    go_meet
    case rel => exact ⟨_, (false), (by first | rfl | (simp; done) | (simp [*]; done)), H', ⟨by have := HK1.out; first | omega | exact Nat.le_refl _⟩, ⟨by (with_reducible repeat (first | apply Kd.R_alloc | apply Kd.R_drewN | apply Kd.R_drew)); exact Kd.R_mono HO_5.out (fun _ hk => hk.2)⟩, ⟨by (with_reducible repeat (first | apply Kd.R_alloc | apply Kd.R_drewN | apply Kd.R_drew)); exact Kd.R_mono HO435.out (fun _ hk => hk.2)⟩, ⟨by repeat (first | (with_reducible first | exact HB.out | apply below_alloc | apply pw_below_drewN | apply below_drew1) | exact HB.out)⟩⟩
   case rest =>
    clear HC18
    (try clear c1); (try clear p1); (try clear q1); (try clear hx1); (try clear c2); (try clear p2); (try clear c3); (try clear c4); (try clear c4b0); (try clear c4b1); (try clear c5); (try clear c5b0); (try clear c5b1); (try clear c6); (try clear c6b0); (try clear c6b1); (try clear p6); (try clear p7); (try clear q7); (try clear hx7); (try clear qi7); (try clear hf7); (try clear c12); (try clear c12b0); (try clear c14); (try clear c14b0); (try clear c14b1); (try clear c15); (try clear c15b0); (try clear c15b1); (try clear c16); (try clear c16b0); (try clear p17); (try clear q17); (try clear hx17)
    (try clear c21); (try clear c21b0); (try clear c21b1); (try clear hx7_0); (try clear p17); (try clear p2); (try clear p6); (try clear p7); (try clear q17); (try clear q7)
    obtain ⟨kq, x9_17, rfl, HA, HJ17, HO_5, HO_7, HB⟩ := hcut
    cases kq with
    | zero => exact absurd HA.out (by simp [posthouseref6_Suits.j1])
    | succ kj17 =>
     have H := HA.out
     clear HA
     simp only [posthouseref6_Suits.j1] at H
     have HC22 := Aside0.mk H
     clear H
     go_upto_region 9 with (fail)
     go_cut [44] (fun v44 wc => ∃ (kq : Nat) (x44_21 : Bool), v44 = .bool x44_21 ∧ Aside0 (posthouseref6_Suits.j2 kq a0 a1 x5_1 x6_1 y433 (bt a0 x6_1) x9_17 x44_21 = some r) ∧ Aside0 (kq ≤ kj17) ∧ Aside0 (Kd.R Kd.bool 4 wc w.heap.size (fun k_ => some k_ ≠ (v434 : Value).ownBlock) u5 x5_1) ∧ Aside0 (Kd.R Kd.bool 4 wc w.heap.size (fun k_ => some k_ ≠ (u5 : Value).ownBlock) v434 y433) ∧ Aside0 (Below w.heap.size w wc))
     case first =>
      have H := HC22.out
      clear HC22
      by_cases c23 : (bt a0 x6_1) = 92
      rotate_left
      ·
       rw [if_neg c23] at H
       have c23b0 : ((bt a0 x6_1) == 92) = false := beq_eq_false_iff_ne.mpr c23
       have c23b1 : ((bt a0 x6_1) != 92) = true := bne_iff_ne.mpr c23
       (first | rw [c23b0] | (simp only [i64_w, i32_w]; rw [c23b0]) | skip)
       have H' := Aside0.mk H
       clear H
       go_wp2
       go_meet
       case rel => exact ⟨_, (false), (by first | rfl | (simp; done) | (simp [*]; done)), H', ⟨by have := HK1.out; have := HJ17.out; first | omega | exact Nat.le_refl _⟩, ⟨by (with_reducible repeat (first | apply Kd.R_alloc | apply Kd.R_drewN | apply Kd.R_drew)); exact HO_5.out⟩, ⟨by (with_reducible repeat (first | apply Kd.R_alloc | apply Kd.R_drewN | apply Kd.R_drew)); exact HO_7.out⟩, ⟨by repeat (first | (with_reducible first | exact HB.out | apply below_alloc | apply pw_below_drewN | apply below_drew1) | exact HB.out)⟩⟩
      rw [if_pos c23] at H
      have c23b0 : ((bt a0 x6_1) == 92) = true := beq_iff_eq.mpr c23
      have c23b1 : ((bt a0 x6_1) != 92) = false := bne_eq_false_iff_eq.mpr c23
      clear c23
      (first | rw [c23b0] | (simp only [i64_w, i32_w]; rw [c23b0]) | skip)
      have H' := Aside0.mk H
      clear H
      go_wp2
      go_meet
      case rel => exact ⟨_, (decide ((wrap64 (x6_1 + 1)) < (a0.size : Int))), (by first | rfl | (simp; done) | (simp [*]; done)), H', ⟨by have := HK1.out; have := HJ17.out; first | omega | exact Nat.le_refl _⟩, ⟨by (with_reducible repeat (first | apply Kd.R_alloc | apply Kd.R_drewN | apply Kd.R_drew)); exact HO_5.out⟩, ⟨by (with_reducible repeat (first | apply Kd.R_alloc | apply Kd.R_drewN | apply Kd.R_drew)); exact HO_7.out⟩, ⟨by repeat (first | (with_reducible first | exact HB.out | apply below_alloc | apply pw_below_drewN | apply below_drew1) | exact HB.out)⟩⟩
     case rest =>
      clear HC22
      (try clear c1); (try clear p1); (try clear q1); (try clear hx1); (try clear c2); (try clear p2); (try clear c3); (try clear c4); (try clear c4b0); (try clear c4b1); (try clear c5); (try clear c5b0); (try clear c5b1); (try clear c6); (try clear c6b0); (try clear c6b1); (try clear p6); (try clear p7); (try clear q7); (try clear hx7); (try clear qi7); (try clear hf7); (try clear c12); (try clear c12b0); (try clear c14); (try clear c14b0); (try clear c14b1); (try clear c15); (try clear c15b0); (try clear c15b1); (try clear c16); (try clear c16b0); (try clear p17); (try clear q17); (try clear hx17)
      (try clear c21); (try clear c21b0); (try clear c21b1); (try clear c23); (try clear c23b0); (try clear c23b1); (try clear hx7_0); (try clear p1); (try clear p17); (try clear p2); (try clear p6); (try clear p7); (try clear q1); (try clear q17); (try clear q7)
      obtain ⟨kq, x44_21, rfl, HA, HJ21, HO_5, HO_7, HB⟩ := hcut
      cases kq with
      | zero => exact absurd HA.out (by simp [posthouseref6_Suits.j2])
      | succ kj21 =>
       have H := HA.out
       clear HA
       simp only [posthouseref6_Suits.j2] at H
       have HC24 := Aside0.mk H
       clear H
       go_upto_if 44 with (fail)
       go_cut [6, 8] (fun v6 v8 wc => ∃ (kq : Nat) (x6_23 : Int) (x8_23 : Int), v6 = .int .i64 x6_23 ∧ v8 = .int .u8 x8_23 ∧ Aside0 (posthouseref6_Suits.j3 kq a0 a1 x5_1 x6_23 y433 x8_23 x9_17 = some r) ∧ Aside0 (kq ≤ kj21) ∧ Aside0 (Kd.R Kd.bool 4 wc w.heap.size (fun k_ => some k_ ≠ (v434 : Value).ownBlock) u5 x5_1) ∧ Aside0 (Kd.R Kd.bool 4 wc w.heap.size (fun k_ => some k_ ≠ (u5 : Value).ownBlock) v434 y433) ∧ Aside0 (Below w.heap.size w wc))
       case first =>
        have H := HC24.out
        clear HC24
        by_cases c25 : x44_21 = true
        rotate_left
        ·
         replace c25 := Bool.eq_false_iff.mpr c25
         subst c25
         have H1 : (posthouseref6_Suits.j3 kj21 a0 a1 x5_1 x6_1 y433 (bt a0 x6_1) x9_17) = some r := by rw [if_neg (show ¬ (false = true) by decide)] at H; exact H
         clear H
         have H := H1
         clear H1
         have H' := Aside0.mk H
         clear H
         go_wp2
         go_meet
         case rel => exact ⟨_, (x6_1), ((bt a0 x6_1)), (by first | rfl | (simp; done) | (simp [*]; done)), (by first | rfl | (simp; done) | (simp [*]; done)), H', ⟨by have := HK1.out; have := HJ17.out; have := HJ21.out; first | omega | exact Nat.le_refl _⟩, ⟨by (with_reducible repeat (first | apply Kd.R_alloc | apply Kd.R_drewN | apply Kd.R_drew)); exact HO_5.out⟩, ⟨by (with_reducible repeat (first | apply Kd.R_alloc | apply Kd.R_drewN | apply Kd.R_drew)); exact HO_7.out⟩, ⟨by repeat (first | (with_reducible first | exact HB.out | apply below_alloc | apply pw_below_drewN | apply below_drew1) | exact HB.out)⟩⟩
        subst c25
        have H1 : (if 0 ≤ (wrap64 (x6_1 + 1)) then (if (wrap64 (x6_1 + 1)) < (a0.size : Int) then (posthouseref6_Suits.j3 kj21 a0 a1 x5_1 (wrap64 (x6_1 + 1)) y433 (bt a0 (wrap64 (x6_1 + 1))) x9_17) else (none)) else (none)) = some r := by rw [if_pos rfl] at H; exact H
        clear H
        have H := H1
        clear H1
        obtain ⟨ji26, hji26⟩ : ∃ j_ : Int, (wrap64 (x6_1 + 1)) = j_ := ⟨_, rfl⟩
        replace H : (if 0 ≤ (ji26) then (if (ji26) < (a0.size : Int) then (posthouseref6_Suits.j3 kj21 a0 a1 x5_1 ji26 y433 (bt a0 (ji26)) x9_17) else (none)) else (none)) = some r := by first | (rw [hji26] at H; exact H) | (simp only [hji26] at H ⊢; exact H)
        have hji26w : (IntKind.i64.wrap (x6_1 + 1)) = ji26 := (i64_w _).trans hji26
        by_cases c27 : 0 ≤ (ji26)
        rotate_left
        ·
         rw [if_neg c27] at H
         exact absurd H (by simp)
        rw [if_pos c27] at H
        have c27b0 : decide (0 ≤ (ji26)) = true := decide_eq_true c27
        clear c27
        (first | rw [c27b0] | (simp only [i64_w, i32_w]; rw [c27b0]) | skip)
        by_cases c28 : (ji26) < (a0.size : Int)
        rotate_left
        ·
         rw [if_neg c28] at H
         exact absurd H (by simp)
        rw [if_pos c28] at H
        have c28b0 : decide ((ji26) < (a0.size : Int)) = true := decide_eq_true c28
        clear c28
        have H' := Aside0.mk H
        clear H
        have p29 : 0 ≤ ((ji26) : Int) := of_decide_eq_true (by first | (with_reducible assumption) | assumption)
        have q29 : (ji26) < (a0.size : Int) := of_decide_eq_true (by first | (with_reducible assumption) | assumption)
        have hx29 := bt_at a0 (ji26)
        replace p29 := eq_true p29
        replace q29 := eq_true q29
        go_wp2
        go_meet
        case rel => exact ⟨_, (ji26), (bt a0 (ji26)), (by first | rfl | (simp; done) | (simp only [← hji26] <;> (first | rfl | simp)) | (simp [*]; done)), (by first | rfl | (simp; done) | (simp only [← hji26] <;> (first | rfl | simp)) | (simp [*]; done)), H', ⟨by have := HK1.out; have := HJ17.out; have := HJ21.out; first | omega | exact Nat.le_refl _⟩, ⟨by (with_reducible repeat (first | apply Kd.R_alloc | apply Kd.R_drewN | apply Kd.R_drew)); exact HO_5.out⟩, ⟨by (with_reducible repeat (first | apply Kd.R_alloc | apply Kd.R_drewN | apply Kd.R_drew)); exact HO_7.out⟩, ⟨by repeat (first | (with_reducible first | exact HB.out | apply below_alloc | apply pw_below_drewN | apply below_drew1) | exact HB.out)⟩⟩
       case rest =>
        clear HC24
        (try clear c1); (try clear p1); (try clear q1); (try clear hx1); (try clear c2); (try clear p2); (try clear q2); (try clear hx2); (try clear c3); (try clear c4); (try clear c4b0); (try clear c4b1); (try clear c5); (try clear c5b0); (try clear c5b1); (try clear c6); (try clear c6b0); (try clear c6b1); (try clear p6); (try clear p7); (try clear q7); (try clear hx7); (try clear qi7); (try clear hf7); (try clear c12); (try clear c12b0); (try clear c14); (try clear c14b0); (try clear c14b1); (try clear c15); (try clear c15b0); (try clear c15b1); (try clear c16); (try clear c16b0); (try clear p17)
        (try clear q17); (try clear hx17); (try clear c21); (try clear c21b0); (try clear c21b1); (try clear c23); (try clear c23b0); (try clear c23b1); (try clear c25); (try clear c27); (try clear c27b0); (try clear c28); (try clear c28b0); (try clear p29); (try clear q29); (try clear hx29); (try clear hx7_0); (try clear p1); (try clear p17); (try clear p2); (try clear p29); (try clear p6); (try clear p7); (try clear q1); (try clear q17); (try clear q29); (try clear q7)
        obtain ⟨kq, x6_23, x8_23, rfl, rfl, HA, HJ23, HO_5, HO_7, HB⟩ := hcut
        cases kq with
        | zero => exact absurd HA.out (by simp [posthouseref6_Suits.j3])
        | succ kj23 =>
         have H := HA.out
         clear HA
         simp only [posthouseref6_Suits.j3] at H
         have H' := Aside0.mk H
         clear H
         go_wp2
         go_loopg [10] kj23 (fun kq v10 w' => ∃ (x7_5 : List Bool) (x10_5 : Int), v10 = .int .i64 x10_5 ∧ Aside0 (posthouseref6_Suits.l1 kq a0 a1 x5_1 x6_23 x7_5 x8_23 x9_17 x10_5 = some r) ∧ Aside0 (kq ≤ kj23) ∧ Aside0 (Kd.R Kd.bool 4 w' w.heap.size (fun k_ => some k_ ≠ (v434 : Value).ownBlock) u5 x5_1) ∧ Aside0 (Kd.R Kd.bool 4 w' w.heap.size (fun k_ => some k_ ≠ (u5 : Value).ownBlock) v434 x7_5) ∧ Aside0 (Below w.heap.size w w'))
         case atStart => exact ⟨(y433), (0), (by first | rfl | (simp; done) | (simp [*]; done)), H', ⟨Nat.le_refl _⟩, ⟨by (with_reducible repeat (first | apply Kd.R_alloc | apply Kd.R_drewN | apply Kd.R_drew)); exact HO_5.out⟩, ⟨by (with_reducible repeat (first | apply Kd.R_alloc | apply Kd.R_drewN | apply Kd.R_drew)); exact HO_7.out⟩, ⟨by repeat (first | (with_reducible first | exact HB.out | apply below_alloc | apply pw_below_drewN | apply below_drew1) | exact HB.out)⟩⟩
         case round =>
          clear H'
          (try clear c1); (try clear p1); (try clear q1); (try clear hx1); (try clear c2); (try clear p2); (try clear q2); (try clear hx2); (try clear c3); (try clear c4); (try clear c4b0); (try clear c4b1); (try clear c5); (try clear c5b0); (try clear c5b1); (try clear c6); (try clear c6b0); (try clear c6b1); (try clear p6); (try clear p7); (try clear q7); (try clear hx7); (try clear qi7); (try clear hf7); (try clear c12); (try clear c12b0); (try clear c14); (try clear c14b0); (try clear c14b1); (try clear c15); (try clear c15b0); (try clear c15b1); (try clear c16); (try clear c16b0); (try clear p17)
          (try clear q17); (try clear hx17); (try clear c21); (try clear c21b0); (try clear c21b1); (try clear c23); (try clear c23b0); (try clear c23b1); (try clear c25); (try clear c27); (try clear c27b0); (try clear c28); (try clear c28b0); (try clear p29); (try clear q29); (try clear hx29); (try clear hx7_0); (try clear p1); (try clear p17); (try clear p2); (try clear p29); (try clear p6); (try clear p7); (try clear q1); (try clear q17); (try clear q2); (try clear q29); (try clear q7)
          obtain ⟨x7_5, x10_5, rfl, HA, HK5, HO_5, HO_7, HB⟩ := hrel
          cases gk with
          | zero => exact absurd HA.out (by simp [posthouseref6_Suits.l1])
          | succ k5 =>
           have H := HA.out
           clear HA
           simp only [posthouseref6_Suits.l1] at H
           by_cases c30 : x10_5 ≤ (a1.size : Int)
           rotate_left
           ·
            rw [if_neg c30] at H
            have c30b0 : decide (x10_5 ≤ (a1.size : Int)) = false := decide_eq_false c30
            clear c30
            have H' := Aside0.mk H
            clear H
            go_wp2
            go_roundg k5
            case measure => have := HK1.out; have := HJ17.out; have := HJ21.out; have := HJ23.out; have := HK5.out; omega
            case rel => exact ⟨(x7_5), (wrap64 (x6_23 + 1)), (by first | rfl | (simp; done) | (simp [*]; done)), H', ⟨by have := HK1.out; have := HJ17.out; have := HJ21.out; have := HJ23.out; have := HK5.out; omega⟩, ⟨by (with_reducible repeat (first | apply Kd.R_alloc | apply Kd.R_drewN | apply Kd.R_drew)); exact Kd.R_mono HO_7.out (fun _ hk => trivial)⟩, ⟨by repeat (first | (with_reducible first | exact HB.out | apply below_alloc | apply pw_below_drewN | apply below_drew1) | exact HB.out)⟩⟩
           rw [if_pos c30] at H
           have c30b0 : decide (x10_5 ≤ (a1.size : Int)) = true := decide_eq_true c30
           clear c30
           have HC31 := Aside0.mk H
           clear H
           go_upto_region 15 with (fail)
           go_cut [61] (fun v61 wc => ∃ (kq : Nat) (x61_30 : Bool), v61 = .bool x61_30 ∧ Aside0 (posthouseref6_Suits.j5 kq a0 a1 x5_1 x6_23 x7_5 x8_23 x9_17 x10_5 x61_30 = some r) ∧ Aside0 (kq ≤ k5) ∧ Aside0 (Kd.R Kd.bool 4 wc w.heap.size (fun k_ => some k_ ≠ (v434 : Value).ownBlock) u5 x5_1) ∧ Aside0 (Kd.R Kd.bool 4 wc w.heap.size (fun k_ => some k_ ≠ (u5 : Value).ownBlock) v434 x7_5) ∧ Aside0 (Below w.heap.size w wc))
           case first =>
            have H := HC31.out
            clear HC31
            by_cases c32 : x9_17 = true
            ·
             subst c32
             have H1 : (posthouseref6_Suits.j5 k5 a0 a1 x5_1 x6_23 x7_5 x8_23 true x10_5 false) = some r := by rw [if_pos rfl] at H; exact H
             clear H
             have H := H1
             clear H1
             have H' := Aside0.mk H
             clear H
             go_wp2
             go_meet
             case rel => exact ⟨_, (false), (by first | rfl | (simp; done) | (simp [*]; done)), H', ⟨by have := HK1.out; have := HJ17.out; have := HJ21.out; have := HJ23.out; have := HK5.out; first | omega | exact Nat.le_refl _⟩, ⟨by (with_reducible repeat (first | apply Kd.R_alloc | apply Kd.R_drewN | apply Kd.R_drew)); exact HO_5.out⟩, ⟨by (with_reducible repeat (first | apply Kd.R_alloc | apply Kd.R_drewN | apply Kd.R_drew)); exact HO_7.out⟩, ⟨by repeat (first | (with_reducible first | exact HB.out | apply below_alloc | apply pw_below_drewN | apply below_drew1) | exact HB.out)⟩⟩
            replace c32 := Bool.eq_false_iff.mpr c32
            subst c32
            have H1 : (posthouseref6_Suits.j5 k5 a0 a1 x5_1 x6_23 x7_5 x8_23 false x10_5 (x8_23 == 42)) = some r := by rw [if_neg (show ¬ (false = true) by decide)] at H; exact H
            clear H
            have H := H1
            clear H1
            have H' := Aside0.mk H
            clear H
            go_wp2
            go_meet
            case rel => exact ⟨_, ((x8_23 == 42)), (by first | rfl | (simp; done) | (simp [*]; done)), H', ⟨by have := HK1.out; have := HJ17.out; have := HJ21.out; have := HJ23.out; have := HK5.out; first | omega | exact Nat.le_refl _⟩, ⟨by (with_reducible repeat (first | apply Kd.R_alloc | apply Kd.R_drewN | apply Kd.R_drew)); exact HO_5.out⟩, ⟨by (with_reducible repeat (first | apply Kd.R_alloc | apply Kd.R_drewN | apply Kd.R_drew)); exact HO_7.out⟩, ⟨by repeat (first | (with_reducible first | exact HB.out | apply below_alloc | apply pw_below_drewN | apply below_drew1) | exact HB.out)⟩⟩
           case rest =>
            clear HC31
            (try clear c1); (try clear p1); (try clear q1); (try clear hx1); (try clear c2); (try clear p2); (try clear q2); (try clear hx2); (try clear c3); (try clear c4); (try clear c4b0); (try clear c4b1); (try clear c5); (try clear c5b0); (try clear c5b1); (try clear c6); (try clear c6b0); (try clear c6b1); (try clear p6); (try clear p7); (try clear q7); (try clear hx7); (try clear qi7); (try clear hf7); (try clear c12); (try clear c12b0); (try clear c14); (try clear c14b0); (try clear c14b1); (try clear c15); (try clear c15b0); (try clear c15b1); (try clear c16); (try clear c16b0); (try clear p17)
            (try clear q17); (try clear hx17); (try clear c21); (try clear c21b0); (try clear c21b1); (try clear c23); (try clear c23b0); (try clear c23b1); (try clear c25); (try clear c27); (try clear c27b0); (try clear c28); (try clear c28b0); (try clear p29); (try clear q29); (try clear hx29); (try clear c30); (try clear c30b0); (try clear c31); (try clear c32); (try clear hx7_0); (try clear p1); (try clear p17); (try clear p2); (try clear p29); (try clear p6); (try clear p7); (try clear q1); (try clear q17); (try clear q2); (try clear q29); (try clear q7)
            obtain ⟨kq, x61_30, rfl, HA, HJ30, HO_5, HO_7, HB⟩ := hcut
            cases kq with
            | zero => exact absurd HA.out (by simp [posthouseref6_Suits.j5])
            | succ kj30 =>
             have H := HA.out
             clear HA
             simp only [posthouseref6_Suits.j5] at H
             by_cases c33 : x61_30 = true
             rotate_left
             ·
              replace c33 := Bool.eq_false_iff.mpr c33
              subst c33
              have H1 : (if x10_5 > 0 then (if 0 ≤ (wrap64 (x10_5 - 1)) then (if (wrap64 (x10_5 - 1)) < (x5_1.length : Int) then (if rdOf false x5_1 (wrap64 (x10_5 - 1)) = true then (if x9_17 = true then (if (wrap64 (x10_5 - 1)) < (a1.size : Int) then ((posthouseref6_alike.f x8_23 (bt a1 (wrap64 (x10_5 - 1)))).bind fun t442 => (if 0 ≤ x10_5 then (if x10_5 < (x7_5.length : Int) then (posthouseref6_Suits.l1 kj30 a0 a1 x5_1 x6_23 (x7_5.set (x10_5 : Int).toNat t442) x8_23 x9_17 (wrap64 (x10_5 + 1))) else (none)) else (none))) else (none)) else (if 0 ≤ x10_5 then (if x10_5 < (x7_5.length : Int) then (posthouseref6_Suits.l1 kj30 a0 a1 x5_1 x6_23 (x7_5.set (x10_5 : Int).toNat true) x8_23 x9_17 (wrap64 (x10_5 + 1))) else (none)) else (none))) else (posthouseref6_Suits.l1 kj30 a0 a1 x5_1 x6_23 x7_5 x8_23 x9_17 (wrap64 (x10_5 + 1)))) else (none)) else (none)) else (posthouseref6_Suits.l1 kj30 a0 a1 x5_1 x6_23 x7_5 x8_23 x9_17 (wrap64 (x10_5 + 1)))) = some r := by rw [if_neg (show ¬ (false = true) by decide)] at H; exact H
              clear H
              have H := H1
              clear H1
              by_cases c58 : x10_5 > 0
              rotate_left
              ·
               rw [if_neg c58] at H
               have c58b0 : decide (0 < x10_5) = false := decide_eq_false c58
               clear c58
               have H' := Aside0.mk H
               clear H
               go_wp2
               go_roundg kj30
               case measure => have := HK1.out; have := HJ17.out; have := HJ21.out; have := HJ23.out; have := HK5.out; have := HJ30.out; omega
               case rel => exact ⟨(x7_5), (wrap64 (x10_5 + 1)), (by first | rfl | (simp; done) | (simp [*]; done)), H', ⟨by have := HK1.out; have := HJ17.out; have := HJ21.out; have := HJ23.out; have := HK5.out; have := HJ30.out; omega⟩, ⟨by (with_reducible repeat (first | apply Kd.R_alloc | apply Kd.R_drewN | apply Kd.R_drew)); exact HO_5.out⟩, ⟨by (with_reducible repeat (first | apply Kd.R_alloc | apply Kd.R_drewN | apply Kd.R_drew)); exact HO_7.out⟩, ⟨by repeat (first | (with_reducible first | exact HB.out | apply below_alloc | apply pw_below_drewN | apply below_drew1) | exact HB.out)⟩⟩
              rw [if_pos c58] at H
              have c58b0 : decide (0 < x10_5) = true := decide_eq_true c58
              clear c58
              obtain ⟨ji59, hji59⟩ : ∃ j_ : Int, (wrap64 (x10_5 - 1)) = j_ := ⟨_, rfl⟩
              replace H : (if 0 ≤ (ji59) then (if (ji59) < (x5_1.length : Int) then (if rdOf false x5_1 (ji59) = true then (if x9_17 = true then (if (ji59) < (a1.size : Int) then ((posthouseref6_alike.f x8_23 (bt a1 (ji59))).bind fun t442 => (if 0 ≤ x10_5 then (if x10_5 < (x7_5.length : Int) then (posthouseref6_Suits.l1 kj30 a0 a1 x5_1 x6_23 (x7_5.set (x10_5 : Int).toNat t442) x8_23 x9_17 (wrap64 (x10_5 + 1))) else (none)) else (none))) else (none)) else (if 0 ≤ x10_5 then (if x10_5 < (x7_5.length : Int) then (posthouseref6_Suits.l1 kj30 a0 a1 x5_1 x6_23 (x7_5.set (x10_5 : Int).toNat true) x8_23 x9_17 (wrap64 (x10_5 + 1))) else (none)) else (none))) else (posthouseref6_Suits.l1 kj30 a0 a1 x5_1 x6_23 x7_5 x8_23 x9_17 (wrap64 (x10_5 + 1)))) else (none)) else (none)) = some r := by first | (rw [hji59] at H; exact H) | (simp only [hji59] at H ⊢; exact H)
              have hji59w : (IntKind.i64.wrap (x10_5 - 1)) = ji59 := (i64_w _).trans hji59
              by_cases c60 : 0 ≤ (ji59)
              rotate_left
              ·
               rw [if_neg c60] at H
               exact absurd H (by simp)
              rw [if_pos c60] at H
              have c60b0 : decide (0 ≤ (ji59)) = true := decide_eq_true c60
              clear c60
              by_cases c61 : (ji59) < (x5_1.length : Int)
              rotate_left
              ·
               rw [if_neg c61] at H
               exact absurd H (by simp)
              rw [if_pos c61] at H
              have c61b0 : decide ((ji59) < (x5_1.length : Int)) = true := decide_eq_true c61
              clear c61
              obtain ⟨bq62, hbq62⟩ : ∃ b_ : Bool, b_ = (rdOf false x5_1 (ji59)) := ⟨_, rfl⟩
              replace H : (if bq62 = true then (if x9_17 = true then (if (ji59) < (a1.size : Int) then ((posthouseref6_alike.f x8_23 (bt a1 (ji59))).bind fun t442 => (if 0 ≤ x10_5 then (if x10_5 < (x7_5.length : Int) then (posthouseref6_Suits.l1 kj30 a0 a1 x5_1 x6_23 (x7_5.set (x10_5 : Int).toNat t442) x8_23 x9_17 (wrap64 (x10_5 + 1))) else (none)) else (none))) else (none)) else (if 0 ≤ x10_5 then (if x10_5 < (x7_5.length : Int) then (posthouseref6_Suits.l1 kj30 a0 a1 x5_1 x6_23 (x7_5.set (x10_5 : Int).toNat true) x8_23 x9_17 (wrap64 (x10_5 + 1))) else (none)) else (none))) else (posthouseref6_Suits.l1 kj30 a0 a1 x5_1 x6_23 x7_5 x8_23 x9_17 (wrap64 (x10_5 + 1)))) = some r := by rw [← hbq62] at H; exact H
              have Nbq62 := Aside0.mk hbq62
              clear hbq62
              by_cases c63 : bq62 = true
              rotate_left
              ·
               replace c63 := Bool.eq_false_iff.mpr c63
               subst c63
               have H1 : (posthouseref6_Suits.l1 kj30 a0 a1 x5_1 x6_23 x7_5 x8_23 x9_17 (wrap64 (x10_5 + 1))) = some r := by rw [if_neg (show ¬ (false = true) by decide)] at H; exact H
               clear H
               have H := H1
               clear H1
               have H' := Aside0.mk H
               clear H
               obtain ⟨Ao80, co80, eo80⟩ := Kd.R_slice HO_5.out
               subst eo80
               have p441 : 0 ≤ ((ji59) : Int) := of_decide_eq_true (by first | (with_reducible assumption) | assumption)
               have q441 : (ji59) < (x5_1.length : Int) := of_decide_eq_true (by first | (with_reducible assumption) | assumption)
               obtain ⟨ad441, e441, hx441_0⟩ := Kd.at_bool (Kd.R_reads' HO_5.out).2.2 (ji59) p441 q441
               (try rw [← Nbq62.out] at hx441_0)
               cases e441
               replace p441 := eq_true p441
               replace q441 := eq_true q441
               go_wp2
               go_roundg kj30
               case measure => have := HK1.out; have := HJ17.out; have := HJ21.out; have := HJ23.out; have := HK5.out; have := HJ30.out; omega
               case rel => exact ⟨(x7_5), (wrap64 (x10_5 + 1)), (by first | rfl | (simp; done) | (simp [*]; done)), H', ⟨by have := HK1.out; have := HJ17.out; have := HJ21.out; have := HJ23.out; have := HK5.out; have := HJ30.out; omega⟩, ⟨by (with_reducible repeat (first | apply Kd.R_alloc | apply Kd.R_drewN | apply Kd.R_drew)); exact HO_5.out⟩, ⟨by (with_reducible repeat (first | apply Kd.R_alloc | apply Kd.R_drewN | apply Kd.R_drew)); exact HO_7.out⟩, ⟨by repeat (first | (with_reducible first | exact HB.out | apply below_alloc | apply pw_below_drewN | apply below_drew1) | exact HB.out)⟩⟩
              subst c63
              have H1 : (if x9_17 = true then (if (ji59) < (a1.size : Int) then ((posthouseref6_alike.f x8_23 (bt a1 (ji59))).bind fun t442 => (if 0 ≤ x10_5 then (if x10_5 < (x7_5.length : Int) then (posthouseref6_Suits.l1 kj30 a0 a1 x5_1 x6_23 (x7_5.set (x10_5 : Int).toNat t442) x8_23 x9_17 (wrap64 (x10_5 + 1))) else (none)) else (none))) else (none)) else (if 0 ≤ x10_5 then (if x10_5 < (x7_5.length : Int) then (posthouseref6_Suits.l1 kj30 a0 a1 x5_1 x6_23 (x7_5.set (x10_5 : Int).toNat true) x8_23 x9_17 (wrap64 (x10_5 + 1))) else (none)) else (none))) = some r := by rw [if_pos rfl] at H; exact H
              clear H
              have H := H1
              clear H1
              by_cases c64 : x9_17 = true
              rotate_left
              ·
               replace c64 := Bool.eq_false_iff.mpr c64
               subst c64
               have H1 : (if 0 ≤ x10_5 then (if x10_5 < (x7_5.length : Int) then (posthouseref6_Suits.l1 kj30 a0 a1 x5_1 x6_23 (x7_5.set (x10_5 : Int).toNat true) x8_23 false (wrap64 (x10_5 + 1))) else (none)) else (none)) = some r := by rw [if_neg (show ¬ (false = true) by decide)] at H; exact H
               clear H
               have H := H1
               clear H1
               by_cases c74 : 0 ≤ x10_5
               rotate_left
               ·
                rw [if_neg c74] at H
                exact absurd H (by simp)
               rw [if_pos c74] at H
               have c74b0 : decide (0 ≤ x10_5) = true := decide_eq_true c74
               clear c74
               by_cases c75 : x10_5 < (x7_5.length : Int)
               rotate_left
               ·
                rw [if_neg c75] at H
                exact absurd H (by simp)
               rw [if_pos c75] at H
               have c75b0 : decide (x10_5 < (x7_5.length : Int)) = true := decide_eq_true c75
               clear c75
               obtain ⟨y444, hy444⟩ : ∃ y_ : List Bool, y_ = (x7_5.set (x10_5 : Int).toNat true) := ⟨_, rfl⟩
               replace H : (posthouseref6_Suits.l1 kj30 a0 a1 x5_1 x6_23 y444 x8_23 false (wrap64 (x10_5 + 1))) = some r := by first | (rw [hy444]; with_reducible exact H) | (have H2_ := (Option.bind_some _ _).symm.trans H; rw [hy444]; with_reducible exact H2_) | (have H2_ := (Option.bind_some _ _).symm.trans H; with_reducible exact H2_) | with_reducible exact H | (rw [hy444]; exact H) | exact H
               have Ny444 := Aside0.mk hy444
               clear hy444
               have H' := Aside0.mk H
               clear H
               obtain ⟨Ao77, co77, eo77⟩ := Kd.R_slice HO_5.out
               subst eo77
               have p441 : 0 ≤ ((ji59) : Int) := of_decide_eq_true (by first | (with_reducible assumption) | assumption)
               have q441 : (ji59) < (x5_1.length : Int) := of_decide_eq_true (by first | (with_reducible assumption) | assumption)
               obtain ⟨ad441, e441, hx441_0⟩ := Kd.at_bool (Kd.R_reads' HO_5.out).2.2 (ji59) p441 q441
               (try rw [← Nbq62.out] at hx441_0)
               cases e441
               replace p441 := eq_true p441
               replace q441 := eq_true q441
               have p76 : 0 ≤ (x10_5 : Int) := of_decide_eq_true (by first | (with_reducible assumption) | assumption)
               have q76 : (x10_5 : Int) < ((x7_5.length : Int) : Int) := of_decide_eq_true (by first | (with_reducible assumption) | assumption)
               obtain ⟨go76, co76, eo76, gb76, gl76, cl76, HG76⟩ := Kd.R_form HO_7.out (by omega)
               (first | cases eo76 | (injection eo76 with ea_ en_ ec_; (first | subst ea_ | (injection ea_ with ea_; subst ea_)); subst ec_; clear en_))
               have GB76 := Aside0.mk gb76
               have GG76 := Aside0.mk HG76
               clear gb76 gl76 HG76
               obtain ⟨hx76_0, hf76_0⟩ := Kd.R_celln false HO_7.out (x10_5 : Int) p76 q76
               replace p76 := eq_true p76
               replace q76 := eq_true q76
               have HP78 := Kd.R_putg HO_7.out (x10_5 : Int) true
               go_wp2_with (first | ((with_reducible refine gate_store (t := 4) (p := 101) rfl ?_); refine store_event (t := 4) (p := 101) (v := ?vo_w79) (w1 := (wc.setCell ⟨go76, (x10_5 : Int).toNat, none⟩ (.bool true))) ?hg ?ho ?hn ?hr ?_; (case ho => rfl); (case hg => rfl); (case hn => rfl); (case hr => first | (go_simp; done) | (go_simp; rfl)); intro w79 hw; have hg : wc.grownBy w79 (some go76) := (by rw [hw]; exact HP78.2); have hp_ : Kd.R Kd.bool 4 w79 w.heap.size (fun k_ => some k_ ≠ (.slice (some ad441) x5_1.length co77 : Value).ownBlock) (.slice (some ⟨go76, 0, none⟩) x7_5.length co76) y444 := (by rw [hw, Ny444.out]; exact HP78.1); clear HP78; have n0_ := Aside0.mk (Kd.R_after (v := (.slice (some ⟨go76, 0, none⟩) x7_5.length co76)) (v1 := (.slice (some ⟨go76, 0, none⟩) x7_5.length co76)) (ok := (fun _ => True)) (by (with_reducible repeat (first | apply Kd.R_alloc | apply Kd.R_drewN | apply Kd.R_drew)); exact Kd.R_mono HO_5.out (fun _ hk => ⟨trivial, hk⟩)) hg (.inl rfl)); have n1_ := Aside0.mk (hp_); have n2_ := Aside0.mk ((by rw [hw]; exact below_set (HB.out) GB76.out : Below w.heap.size w w79)); clear HO_5; clear HO_7; clear HB; have HO_5 := n0_; have HO_7 := n1_; have HB := n2_; clear n0_ n1_ n2_; clear hg hw hp_))
               go_roundg kj30
               case measure => have := HK1.out; have := HJ17.out; have := HJ21.out; have := HJ23.out; have := HK5.out; have := HJ30.out; omega
               case rel => exact ⟨(y444), (wrap64 (x10_5 + 1)), (by first | rfl | (simp; done) | (simp [*]; done)), H', ⟨by have := HK1.out; have := HJ17.out; have := HJ21.out; have := HJ23.out; have := HK5.out; have := HJ30.out; omega⟩, ⟨by (with_reducible repeat (first | apply Kd.R_alloc | apply Kd.R_drewN | apply Kd.R_drew)); exact Kd.R_mono HO_5.out (fun _ hk => hk.2)⟩, ⟨by (with_reducible repeat (first | apply Kd.R_alloc | apply Kd.R_drewN | apply Kd.R_drew)); exact HO_7.out⟩, ⟨by repeat (first | (with_reducible first | exact HB.out | apply below_alloc | apply pw_below_drewN | apply below_drew1) | exact HB.out)⟩⟩
              subst c64
              have H1 : (if (ji59) < (a1.size : Int) then ((posthouseref6_alike.f x8_23 (bt a1 (ji59))).bind fun t442 => (if 0 ≤ x10_5 then (if x10_5 < (x7_5.length : Int) then (posthouseref6_Suits.l1 kj30 a0 a1 x5_1 x6_23 (x7_5.set (x10_5 : Int).toNat t442) x8_23 true (wrap64 (x10_5 + 1))) else (none)) else (none))) else (none)) = some r := by rw [if_pos rfl] at H; exact H
              clear H
              have H := H1
              clear H1
              by_cases c65 : (ji59) < (a1.size : Int)
              rotate_left
              ·
               rw [if_neg c65] at H
               exact absurd H (by simp)
              rw [if_pos c65] at H
              have c65b0 : decide ((ji59) < (a1.size : Int)) = true := decide_eq_true c65
              clear c65
              replace H := Option.bind_eq_some_iff.mp H
              obtain ⟨t442, A670, H⟩ := H
              replace H : (if 0 ≤ x10_5 then (if x10_5 < (x7_5.length : Int) then (posthouseref6_Suits.l1 kj30 a0 a1 x5_1 x6_23 (x7_5.set (x10_5 : Int).toNat t442) x8_23 true (wrap64 (x10_5 + 1))) else (none)) else (none)) = some r := H
              have A67 := Aside0.mk A670
              clear A670
              by_cases c68 : 0 ≤ x10_5
              rotate_left
              ·
               rw [if_neg c68] at H
               exact absurd H (by simp)
              rw [if_pos c68] at H
              have c68b0 : decide (0 ≤ x10_5) = true := decide_eq_true c68
              clear c68
              by_cases c69 : x10_5 < (x7_5.length : Int)
              rotate_left
              ·
               rw [if_neg c69] at H
               exact absurd H (by simp)
              rw [if_pos c69] at H
              have c69b0 : decide (x10_5 < (x7_5.length : Int)) = true := decide_eq_true c69
              clear c69
              obtain ⟨y443, hy443⟩ : ∃ y_ : List Bool, y_ = (x7_5.set (x10_5 : Int).toNat t442) := ⟨_, rfl⟩
              replace H : (posthouseref6_Suits.l1 kj30 a0 a1 x5_1 x6_23 y443 x8_23 true (wrap64 (x10_5 + 1))) = some r := by first | (rw [hy443]; with_reducible exact H) | (have H2_ := (Option.bind_some _ _).symm.trans H; rw [hy443]; with_reducible exact H2_) | (have H2_ := (Option.bind_some _ _).symm.trans H; with_reducible exact H2_) | with_reducible exact H | (rw [hy443]; exact H) | exact H
              have Ny443 := Aside0.mk hy443
              clear hy443
              have H' := Aside0.mk H
              clear H
              obtain ⟨Ao71, co71, eo71⟩ := Kd.R_slice HO_5.out
              subst eo71
              have p441 : 0 ≤ ((ji59) : Int) := of_decide_eq_true (by first | (with_reducible assumption) | assumption)
              have q441 : (ji59) < (x5_1.length : Int) := of_decide_eq_true (by first | (with_reducible assumption) | assumption)
              obtain ⟨ad441, e441, hx441_0⟩ := Kd.at_bool (Kd.R_reads' HO_5.out).2.2 (ji59) p441 q441
              (try rw [← Nbq62.out] at hx441_0)
              cases e441
              replace p441 := eq_true p441
              replace q441 := eq_true q441
              have p66 : 0 ≤ ((ji59) : Int) := of_decide_eq_true (by first | (with_reducible assumption) | assumption)
              have q66 : (ji59) < (a1.size : Int) := of_decide_eq_true (by first | (with_reducible assumption) | assumption)
              have hx66 := bt_at a1 (ji59)
              replace p66 := eq_true p66
              replace q66 := eq_true q66
              go_wp2_with (first | (go_at_call 35; (with_reducible refine (posthouseref6_alike.calls x8_23 (bt a1 (ji59)) t442 _ A67.out).mono ?_); rintro e w' ⟨rfl, ⟨nd, rfl⟩⟩; (try (rw [drewN_self wc]; generalize hq_ : World.drewN wc _ = wc; have n0_ : Aside0 (Kd.R Kd.bool 4 wc w.heap.size (fun k_ => some k_ ≠ (v434 : Value).ownBlock) (.slice (some ad441) x5_1.length co71) x5_1) := ⟨by rw [← hq_]; exact (by (with_reducible repeat (first | apply Kd.R_alloc | apply Kd.R_drewN | apply Kd.R_drew)); exact HO_5.out)⟩; have n1_ : Aside0 (Kd.R Kd.bool 4 wc w.heap.size (fun k_ => some k_ ≠ (.slice (some ad441) x5_1.length co71 : Value).ownBlock) v434 x7_5) := ⟨by rw [← hq_]; exact (by (with_reducible repeat (first | apply Kd.R_alloc | apply Kd.R_drewN | apply Kd.R_drew)); exact HO_7.out)⟩; have n2_ : Aside0 (Below w.heap.size w wc) := ⟨by rw [← hq_]; exact (by repeat (first | (with_reducible first | exact HB.out | apply below_alloc | apply pw_below_drewN | apply below_drew1) | exact HB.out))⟩; clear HO_5 HO_7 HB hq_; have HO_5 := n0_; have HO_7 := n1_; have HB := n2_; clear n0_ n1_ n2_)); have p70 : 0 ≤ (x10_5 : Int) := of_decide_eq_true (by first | (with_reducible assumption) | assumption); have q70 : (x10_5 : Int) < ((x7_5.length : Int) : Int) := of_decide_eq_true (by first | (with_reducible assumption) | assumption); obtain ⟨go70, co70, eo70, gb70, gl70, cl70, HG70⟩ := Kd.R_form HO_7.out (by omega); (first | cases eo70 | (injection eo70 with ea_ en_ ec_; (first | subst ea_ | (injection ea_ with ea_; subst ea_)); subst ec_; clear en_)); have GB70 := Aside0.mk gb70; have GG70 := Aside0.mk HG70; clear gb70 gl70 HG70; obtain ⟨hx70_0, hf70_0⟩ := Kd.R_celln false HO_7.out (x10_5 : Int) p70 q70; replace p70 := eq_true p70; replace q70 := eq_true q70; obtain ⟨hy72_, hz72_⟩ := Kd.R_celln false HO_7.out (x10_5 : Int) (of_decide_eq_true (by first | (with_reducible assumption) | assumption)) (of_decide_eq_true (by first | (with_reducible assumption) | assumption)); have HP72 := Kd.R_putg HO_7.out (x10_5 : Int) t442) | ((with_reducible refine gate_store (t := 4) (p := 101) rfl ?_); refine store_event (t := 4) (p := 101) (v := ?vo_w73) (w1 := (wc.setCell ⟨go70, (x10_5 : Int).toNat, none⟩ (.bool t442))) ?hg ?ho ?hn ?hr ?_; (case ho => rfl); (case hg => rfl); (case hn => rfl); (case hr => first | (go_simp; done) | (go_simp; rfl)); intro w73 hw; have hg : wc.grownBy w73 (some go70) := (by rw [hw]; exact HP72.2); have hp_ : Kd.R Kd.bool 4 w73 w.heap.size (fun k_ => some k_ ≠ (.slice (some ad441) x5_1.length co71 : Value).ownBlock) (.slice (some ⟨go70, 0, none⟩) x7_5.length co70) y443 := (by rw [hw, Ny443.out]; exact HP72.1); clear HP72; have n0_ := Aside0.mk (Kd.R_after (v := (.slice (some ⟨go70, 0, none⟩) x7_5.length co70)) (v1 := (.slice (some ⟨go70, 0, none⟩) x7_5.length co70)) (ok := (fun _ => True)) (by (with_reducible repeat (first | apply Kd.R_alloc | apply Kd.R_drewN | apply Kd.R_drew)); exact Kd.R_mono HO_5.out (fun _ hk => ⟨trivial, hk⟩)) hg (.inl rfl)); have n1_ := Aside0.mk (hp_); have n2_ := Aside0.mk ((by rw [hw]; exact below_set (HB.out) GB70.out : Below w.heap.size w w73)); clear HO_5; clear HO_7; clear HB; have HO_5 := n0_; have HO_7 := n1_; have HB := n2_; clear n0_ n1_ n2_; clear hg hw hp_))
              go_roundg kj30
              case measure => have := HK1.out; have := HJ17.out; have := HJ21.out; have := HJ23.out; have := HK5.out; have := HJ30.out; omega
              case rel => exact ⟨(y443), (wrap64 (x10_5 + 1)), (by first | rfl | (simp; done) | (simp [*]; done)), H', ⟨by have := HK1.out; have := HJ17.out; have := HJ21.out; have := HJ23.out; have := HK5.out; have := HJ30.out; omega⟩, ⟨by (with_reducible repeat (first | apply Kd.R_alloc | apply Kd.R_drewN | apply Kd.R_drew)); exact Kd.R_mono HO_5.out (fun _ hk => hk.2)⟩, ⟨by (with_reducible repeat (first | apply Kd.R_alloc | apply Kd.R_drewN | apply Kd.R_drew)); exact HO_7.out⟩, ⟨by repeat (first | (with_reducible first | exact HB.out | apply below_alloc | apply pw_below_drewN | apply below_drew1) | exact HB.out)⟩⟩
             subst c33
             have H1 : (if 0 ≤ x10_5 then (if x10_5 < (x5_1.length : Int) then (if rdOf false x5_1 x10_5 = true then (if x10_5 < (x7_5.length : Int) then (posthouseref6_Suits.l1 kj30 a0 a1 x5_1 x6_23 (x7_5.set (x10_5 : Int).toNat true) x8_23 x9_17 (wrap64 (x10_5 + 1))) else (none)) else (if x10_5 > 0 then (if 0 ≤ (wrap64 (x10_5 - 1)) then (if (wrap64 (x10_5 - 1)) < (x7_5.length : Int) then (if x10_5 < (x7_5.length : Int) then (posthouseref6_Suits.l1 kj30 a0 a1 x5_1 x6_23 (x7_5.set (x10_5 : Int).toNat (rdOf false x7_5 (wrap64 (x10_5 - 1)))) x8_23 x9_17 (wrap64 (x10_5 + 1))) else (none)) else (none)) else (none)) else (if x10_5 < (x7_5.length : Int) then (posthouseref6_Suits.l1 kj30 a0 a1 x5_1 x6_23 (x7_5.set (x10_5 : Int).toNat false) x8_23 x9_17 (wrap64 (x10_5 + 1))) else (none)))) else (none)) else (none)) = some r := by rw [if_pos rfl] at H; exact H
             clear H
             have H := H1
             clear H1
             by_cases c34 : 0 ≤ x10_5
             rotate_left
             ·
              rw [if_neg c34] at H
              exact absurd H (by simp)
             rw [if_pos c34] at H
             have c34b0 : decide (0 ≤ x10_5) = true := decide_eq_true c34
             clear c34
             by_cases c35 : x10_5 < (x5_1.length : Int)
             rotate_left
             ·
              rw [if_neg c35] at H
              exact absurd H (by simp)
             rw [if_pos c35] at H
             have c35b0 : decide (x10_5 < (x5_1.length : Int)) = true := decide_eq_true c35
             clear c35
             obtain ⟨bq36, hbq36⟩ : ∃ b_ : Bool, b_ = (rdOf false x5_1 x10_5) := ⟨_, rfl⟩
             replace H : (if bq36 = true then (if x10_5 < (x7_5.length : Int) then (posthouseref6_Suits.l1 kj30 a0 a1 x5_1 x6_23 (x7_5.set (x10_5 : Int).toNat true) x8_23 x9_17 (wrap64 (x10_5 + 1))) else (none)) else (if x10_5 > 0 then (if 0 ≤ (wrap64 (x10_5 - 1)) then (if (wrap64 (x10_5 - 1)) < (x7_5.length : Int) then (if x10_5 < (x7_5.length : Int) then (posthouseref6_Suits.l1 kj30 a0 a1 x5_1 x6_23 (x7_5.set (x10_5 : Int).toNat (rdOf false x7_5 (wrap64 (x10_5 - 1)))) x8_23 x9_17 (wrap64 (x10_5 + 1))) else (none)) else (none)) else (none)) else (if x10_5 < (x7_5.length : Int) then (posthouseref6_Suits.l1 kj30 a0 a1 x5_1 x6_23 (x7_5.set (x10_5 : Int).toNat false) x8_23 x9_17 (wrap64 (x10_5 + 1))) else (none)))) = some r := by rw [← hbq36] at H; exact H
             have Nbq36 := Aside0.mk hbq36
             clear hbq36
             by_cases c37 : bq36 = true
             ·
              subst c37
              have H1 : (if x10_5 < (x7_5.length : Int) then (posthouseref6_Suits.l1 kj30 a0 a1 x5_1 x6_23 (x7_5.set (x10_5 : Int).toNat true) x8_23 x9_17 (wrap64 (x10_5 + 1))) else (none)) = some r := by rw [if_pos rfl] at H; exact H
              clear H
              have H := H1
              clear H1
              by_cases c38 : x10_5 < (x7_5.length : Int)
              rotate_left
              ·
               rw [if_neg c38] at H
               exact absurd H (by simp)
              rw [if_pos c38] at H
              have c38b0 : decide (x10_5 < (x7_5.length : Int)) = true := decide_eq_true c38
              clear c38
              obtain ⟨y437, hy437⟩ : ∃ y_ : List Bool, y_ = (x7_5.set (x10_5 : Int).toNat true) := ⟨_, rfl⟩
              replace H : (posthouseref6_Suits.l1 kj30 a0 a1 x5_1 x6_23 y437 x8_23 x9_17 (wrap64 (x10_5 + 1))) = some r := by first | (rw [hy437]; with_reducible exact H) | (have H2_ := (Option.bind_some _ _).symm.trans H; rw [hy437]; with_reducible exact H2_) | (have H2_ := (Option.bind_some _ _).symm.trans H; with_reducible exact H2_) | with_reducible exact H | (rw [hy437]; exact H) | exact H
              have Ny437 := Aside0.mk hy437
              clear hy437
              have H' := Aside0.mk H
              clear H
              obtain ⟨Ao40, co40, eo40⟩ := Kd.R_slice HO_5.out
              subst eo40
              have p436 : 0 ≤ (x10_5 : Int) := of_decide_eq_true (by first | (with_reducible assumption) | assumption)
              have q436 : x10_5 < (x5_1.length : Int) := of_decide_eq_true (by first | (with_reducible assumption) | assumption)
              obtain ⟨ad436, e436, hx436_0⟩ := Kd.at_bool (Kd.R_reads' HO_5.out).2.2 x10_5 p436 q436
              (try rw [← Nbq36.out] at hx436_0)
              cases e436
              replace p436 := eq_true p436
              replace q436 := eq_true q436
              have p39 : 0 ≤ (x10_5 : Int) := of_decide_eq_true (by first | (with_reducible assumption) | assumption)
              have q39 : (x10_5 : Int) < ((x7_5.length : Int) : Int) := of_decide_eq_true (by first | (with_reducible assumption) | assumption)
              obtain ⟨go39, co39, eo39, gb39, gl39, cl39, HG39⟩ := Kd.R_form HO_7.out (by omega)
              (first | cases eo39 | (injection eo39 with ea_ en_ ec_; (first | subst ea_ | (injection ea_ with ea_; subst ea_)); subst ec_; clear en_))
              have GB39 := Aside0.mk gb39
              have GG39 := Aside0.mk HG39
              clear gb39 gl39 HG39
              obtain ⟨hx39_0, hf39_0⟩ := Kd.R_celln false HO_7.out (x10_5 : Int) p39 q39
              replace p39 := eq_true p39
              replace q39 := eq_true q39
              have HP41 := Kd.R_putg HO_7.out (x10_5 : Int) true
              go_wp2_with (first | ((with_reducible refine gate_store (t := 4) (p := 79) rfl ?_); refine store_event (t := 4) (p := 79) (v := ?vo_w42) (w1 := (wc.setCell ⟨go39, (x10_5 : Int).toNat, none⟩ (.bool true))) ?hg ?ho ?hn ?hr ?_; (case ho => rfl); (case hg => rfl); (case hn => rfl); (case hr => first | (go_simp; done) | (go_simp; rfl)); intro w42 hw; have hg : wc.grownBy w42 (some go39) := (by rw [hw]; exact HP41.2); have hp_ : Kd.R Kd.bool 4 w42 w.heap.size (fun k_ => some k_ ≠ (.slice (some ad436) x5_1.length co40 : Value).ownBlock) (.slice (some ⟨go39, 0, none⟩) x7_5.length co39) y437 := (by rw [hw, Ny437.out]; exact HP41.1); clear HP41; have n0_ := Aside0.mk (Kd.R_after (v := (.slice (some ⟨go39, 0, none⟩) x7_5.length co39)) (v1 := (.slice (some ⟨go39, 0, none⟩) x7_5.length co39)) (ok := (fun _ => True)) (by (with_reducible repeat (first | apply Kd.R_alloc | apply Kd.R_drewN | apply Kd.R_drew)); exact Kd.R_mono HO_5.out (fun _ hk => ⟨trivial, hk⟩)) hg (.inl rfl)); have n1_ := Aside0.mk (hp_); have n2_ := Aside0.mk ((by rw [hw]; exact below_set (HB.out) GB39.out : Below w.heap.size w w42)); clear HO_5; clear HO_7; clear HB; have HO_5 := n0_; have HO_7 := n1_; have HB := n2_; clear n0_ n1_ n2_; clear hg hw hp_))
              go_roundg kj30
              case measure => have := HK1.out; have := HJ17.out; have := HJ21.out; have := HJ23.out; have := HK5.out; have := HJ30.out; omega
              case rel => exact ⟨(y437), (wrap64 (x10_5 + 1)), (by first | rfl | (simp; done) | (simp [*]; done)), H', ⟨by have := HK1.out; have := HJ17.out; have := HJ21.out; have := HJ23.out; have := HK5.out; have := HJ30.out; omega⟩, ⟨by (with_reducible repeat (first | apply Kd.R_alloc | apply Kd.R_drewN | apply Kd.R_drew)); exact Kd.R_mono HO_5.out (fun _ hk => hk.2)⟩, ⟨by (with_reducible repeat (first | apply Kd.R_alloc | apply Kd.R_drewN | apply Kd.R_drew)); exact HO_7.out⟩, ⟨by repeat (first | (with_reducible first | exact HB.out | apply below_alloc | apply pw_below_drewN | apply below_drew1) | exact HB.out)⟩⟩
             replace c37 := Bool.eq_false_iff.mpr c37
             subst c37
             have H1 : (if x10_5 > 0 then (if 0 ≤ (wrap64 (x10_5 - 1)) then (if (wrap64 (x10_5 - 1)) < (x7_5.length : Int) then (if x10_5 < (x7_5.length : Int) then (posthouseref6_Suits.l1 kj30 a0 a1 x5_1 x6_23 (x7_5.set (x10_5 : Int).toNat (rdOf false x7_5 (wrap64 (x10_5 - 1)))) x8_23 x9_17 (wrap64 (x10_5 + 1))) else (none)) else (none)) else (none)) else (if x10_5 < (x7_5.length : Int) then (posthouseref6_Suits.l1 kj30 a0 a1 x5_1 x6_23 (x7_5.set (x10_5 : Int).toNat false) x8_23 x9_17 (wrap64 (x10_5 + 1))) else (none))) = some r := by rw [if_neg (show ¬ (false = true) by decide)] at H; exact H
             clear H
             have H := H1
             clear H1
             by_cases c43 : x10_5 > 0
             rotate_left
             ·
              rw [if_neg c43] at H
              have c43b0 : decide (0 < x10_5) = false := decide_eq_false c43
              clear c43
              by_cases c53 : x10_5 < (x7_5.length : Int)
              rotate_left
              ·
               rw [if_neg c53] at H
               exact absurd H (by simp)
              rw [if_pos c53] at H
              have c53b0 : decide (x10_5 < (x7_5.length : Int)) = true := decide_eq_true c53
              clear c53
              obtain ⟨y440, hy440⟩ : ∃ y_ : List Bool, y_ = (x7_5.set (x10_5 : Int).toNat false) := ⟨_, rfl⟩
              replace H : (posthouseref6_Suits.l1 kj30 a0 a1 x5_1 x6_23 y440 x8_23 x9_17 (wrap64 (x10_5 + 1))) = some r := by first | (rw [hy440]; with_reducible exact H) | (have H2_ := (Option.bind_some _ _).symm.trans H; rw [hy440]; with_reducible exact H2_) | (have H2_ := (Option.bind_some _ _).symm.trans H; with_reducible exact H2_) | with_reducible exact H | (rw [hy440]; exact H) | exact H
              have Ny440 := Aside0.mk hy440
              clear hy440
              have H' := Aside0.mk H
              clear H
              obtain ⟨Ao55, co55, eo55⟩ := Kd.R_slice HO_5.out
              subst eo55
              have p436 : 0 ≤ (x10_5 : Int) := of_decide_eq_true (by first | (with_reducible assumption) | assumption)
              have q436 : x10_5 < (x5_1.length : Int) := of_decide_eq_true (by first | (with_reducible assumption) | assumption)
              obtain ⟨ad436, e436, hx436_0⟩ := Kd.at_bool (Kd.R_reads' HO_5.out).2.2 x10_5 p436 q436
              (try rw [← Nbq36.out] at hx436_0)
              cases e436
              replace p436 := eq_true p436
              replace q436 := eq_true q436
              have p54 : 0 ≤ (x10_5 : Int) := of_decide_eq_true (by first | (with_reducible assumption) | assumption)
              have q54 : (x10_5 : Int) < ((x7_5.length : Int) : Int) := of_decide_eq_true (by first | (with_reducible assumption) | assumption)
              obtain ⟨go54, co54, eo54, gb54, gl54, cl54, HG54⟩ := Kd.R_form HO_7.out (by omega)
              (first | cases eo54 | (injection eo54 with ea_ en_ ec_; (first | subst ea_ | (injection ea_ with ea_; subst ea_)); subst ec_; clear en_))
              have GB54 := Aside0.mk gb54
              have GG54 := Aside0.mk HG54
              clear gb54 gl54 HG54
              obtain ⟨hx54_0, hf54_0⟩ := Kd.R_celln false HO_7.out (x10_5 : Int) p54 q54
              replace p54 := eq_true p54
              replace q54 := eq_true q54
              have HP56 := Kd.R_putg HO_7.out (x10_5 : Int) false
              go_wp2_with (first | ((with_reducible refine gate_store (t := 4) (p := 79) rfl ?_); refine store_event (t := 4) (p := 79) (v := ?vo_w57) (w1 := (wc.setCell ⟨go54, (x10_5 : Int).toNat, none⟩ (.bool false))) ?hg ?ho ?hn ?hr ?_; (case ho => rfl); (case hg => rfl); (case hn => rfl); (case hr => first | (go_simp; done) | (go_simp; rfl)); intro w57 hw; have hg : wc.grownBy w57 (some go54) := (by rw [hw]; exact HP56.2); have hp_ : Kd.R Kd.bool 4 w57 w.heap.size (fun k_ => some k_ ≠ (.slice (some ad436) x5_1.length co55 : Value).ownBlock) (.slice (some ⟨go54, 0, none⟩) x7_5.length co54) y440 := (by rw [hw, Ny440.out]; exact HP56.1); clear HP56; have n0_ := Aside0.mk (Kd.R_after (v := (.slice (some ⟨go54, 0, none⟩) x7_5.length co54)) (v1 := (.slice (some ⟨go54, 0, none⟩) x7_5.length co54)) (ok := (fun _ => True)) (by (with_reducible repeat (first | apply Kd.R_alloc | apply Kd.R_drewN | apply Kd.R_drew)); exact Kd.R_mono HO_5.out (fun _ hk => ⟨trivial, hk⟩)) hg (.inl rfl)); have n1_ := Aside0.mk (hp_); have n2_ := Aside0.mk ((by rw [hw]; exact below_set (HB.out) GB54.out : Below w.heap.size w w57)); clear HO_5; clear HO_7; clear HB; have HO_5 := n0_; have HO_7 := n1_; have HB := n2_; clear n0_ n1_ n2_; clear hg hw hp_))
              go_roundg kj30
              case measure => have := HK1.out; have := HJ17.out; have := HJ21.out; have := HJ23.out; have := HK5.out; have := HJ30.out; omega
              case rel => exact ⟨(y440), (wrap64 (x10_5 + 1)), (by first | rfl | (simp; done) | (simp [*]; done)), H', ⟨by have := HK1.out; have := HJ17.out; have := HJ21.out; have := HJ23.out; have := HK5.out; have := HJ30.out; omega⟩, ⟨by (with_reducible repeat (first | apply Kd.R_alloc | apply Kd.R_drewN | apply Kd.R_drew)); exact Kd.R_mono HO_5.out (fun _ hk => hk.2)⟩, ⟨by (with_reducible repeat (first | apply Kd.R_alloc | apply Kd.R_drewN | apply Kd.R_drew)); exact HO_7.out⟩, ⟨by repeat (first | (with_reducible first | exact HB.out | apply below_alloc | apply pw_below_drewN | apply below_drew1) | exact HB.out)⟩⟩
             rw [if_pos c43] at H
             have c43b0 : decide (0 < x10_5) = true := decide_eq_true c43
             clear c43
             obtain ⟨ji44, hji44⟩ : ∃ j_ : Int, (wrap64 (x10_5 - 1)) = j_ := ⟨_, rfl⟩
             replace H : (if 0 ≤ (ji44) then (if (ji44) < (x7_5.length : Int) then (if x10_5 < (x7_5.length : Int) then (posthouseref6_Suits.l1 kj30 a0 a1 x5_1 x6_23 (x7_5.set (x10_5 : Int).toNat (rdOf false x7_5 (ji44))) x8_23 x9_17 (wrap64 (x10_5 + 1))) else (none)) else (none)) else (none)) = some r := by first | (rw [hji44] at H; exact H) | (simp only [hji44] at H ⊢; exact H)
             have hji44w : (IntKind.i64.wrap (x10_5 - 1)) = ji44 := (i64_w _).trans hji44
             by_cases c45 : 0 ≤ (ji44)
             rotate_left
             ·
              rw [if_neg c45] at H
              exact absurd H (by simp)
             rw [if_pos c45] at H
             have c45b0 : decide (0 ≤ (ji44)) = true := decide_eq_true c45
             clear c45
             by_cases c46 : (ji44) < (x7_5.length : Int)
             rotate_left
             ·
              rw [if_neg c46] at H
              exact absurd H (by simp)
             rw [if_pos c46] at H
             have c46b0 : decide ((ji44) < (x7_5.length : Int)) = true := decide_eq_true c46
             clear c46
             by_cases c47 : x10_5 < (x7_5.length : Int)
             rotate_left
             ·
              rw [if_neg c47] at H
              exact absurd H (by simp)
             rw [if_pos c47] at H
             have c47b0 : decide (x10_5 < (x7_5.length : Int)) = true := decide_eq_true c47
             clear c47
             obtain ⟨y439, hy439⟩ : ∃ y_ : List Bool, y_ = (x7_5.set (x10_5 : Int).toNat (rdOf false x7_5 (ji44))) := ⟨_, rfl⟩
             replace H : (posthouseref6_Suits.l1 kj30 a0 a1 x5_1 x6_23 y439 x8_23 x9_17 (wrap64 (x10_5 + 1))) = some r := by first | (rw [hy439]; with_reducible exact H) | (have H2_ := (Option.bind_some _ _).symm.trans H; rw [hy439]; with_reducible exact H2_) | (have H2_ := (Option.bind_some _ _).symm.trans H; with_reducible exact H2_) | with_reducible exact H | (rw [hy439]; exact H) | exact H
             have Ny439 := Aside0.mk hy439
             clear hy439
             have H' := Aside0.mk H
             clear H
             obtain ⟨Ao49, co49, eo49⟩ := Kd.R_slice HO_5.out
             subst eo49
             have p436 : 0 ≤ (x10_5 : Int) := of_decide_eq_true (by first | (with_reducible assumption) | assumption)
             have q436 : x10_5 < (x5_1.length : Int) := of_decide_eq_true (by first | (with_reducible assumption) | assumption)
             obtain ⟨ad436, e436, hx436_0⟩ := Kd.at_bool (Kd.R_reads' HO_5.out).2.2 x10_5 p436 q436
             (try rw [← Nbq36.out] at hx436_0)
             cases e436
             replace p436 := eq_true p436
             replace q436 := eq_true q436
             obtain ⟨Ao50, co50, eo50⟩ := Kd.R_slice HO_7.out
             subst eo50
             have p438 : 0 ≤ ((ji44) : Int) := of_decide_eq_true (by first | (with_reducible assumption) | assumption)
             have q438 : (ji44) < (x7_5.length : Int) := of_decide_eq_true (by first | (with_reducible assumption) | assumption)
             obtain ⟨ad438, e438, hx438_0⟩ := Kd.at_bool (Kd.R_reads' HO_7.out).2.2 (ji44) p438 q438
             (try rw [← Nbq36.out] at hx438_0)
             cases e438
             replace p438 := eq_true p438
             replace q438 := eq_true q438
             have p48 : 0 ≤ (x10_5 : Int) := of_decide_eq_true (by first | (with_reducible assumption) | assumption)
             have q48 : (x10_5 : Int) < ((x7_5.length : Int) : Int) := of_decide_eq_true (by first | (with_reducible assumption) | assumption)
             obtain ⟨go48, co48, eo48, gb48, gl48, cl48, HG48⟩ := Kd.R_form HO_7.out (by omega)
             (first | cases eo48 | (injection eo48 with ea_ en_ ec_; (first | subst ea_ | (injection ea_ with ea_; subst ea_)); subst ec_; clear en_))
             have GB48 := Aside0.mk gb48
             have GG48 := Aside0.mk HG48
             clear gb48 gl48 HG48
             (first | simp only [add_plain] at hx438_0 | skip)
             obtain ⟨hx48_0, hf48_0⟩ := Kd.R_celln false HO_7.out (x10_5 : Int) p48 q48
             replace p48 := eq_true p48
             replace q48 := eq_true q48
             have HP51 := Kd.R_putg HO_7.out (x10_5 : Int) (rdOf false x7_5 (ji44))
             go_wp2_with (first | ((with_reducible refine gate_store (t := 4) (p := 79) rfl ?_); refine store_event (t := 4) (p := 79) (v := ?vo_w52) (w1 := (wc.setCell ⟨go48, (x10_5 : Int).toNat, none⟩ (.bool (rdOf false x7_5 (ji44))))) ?hg ?ho ?hn ?hr ?_; (case ho => rfl); (case hg => rfl); (case hn => rfl); (case hr => first | (go_simp; done) | (go_simp; rfl)); intro w52 hw; have hg : wc.grownBy w52 (some go48) := (by rw [hw]; exact HP51.2); have hp_ : Kd.R Kd.bool 4 w52 w.heap.size (fun k_ => some k_ ≠ (.slice (some ad436) x5_1.length co49 : Value).ownBlock) (.slice (some ⟨go48, 0, none⟩) x7_5.length co50) y439 := (by rw [hw, Ny439.out]; exact HP51.1); clear HP51; have n0_ := Aside0.mk (Kd.R_after (v := (.slice (some ⟨go48, 0, none⟩) x7_5.length co50)) (v1 := (.slice (some ⟨go48, 0, none⟩) x7_5.length co50)) (ok := (fun _ => True)) (by (with_reducible repeat (first | apply Kd.R_alloc | apply Kd.R_drewN | apply Kd.R_drew)); exact Kd.R_mono HO_5.out (fun _ hk => ⟨trivial, hk⟩)) hg (.inl rfl)); have n1_ := Aside0.mk (hp_); have n2_ := Aside0.mk ((by rw [hw]; exact below_set (HB.out) GB48.out : Below w.heap.size w w52)); clear HO_5; clear HO_7; clear HB; have HO_5 := n0_; have HO_7 := n1_; have HB := n2_; clear n0_ n1_ n2_; clear hg hw hp_))
             go_roundg kj30
             case measure => have := HK1.out; have := HJ17.out; have := HJ21.out; have := HJ23.out; have := HK5.out; have := HJ30.out; omega
             case rel => exact ⟨(y439), (wrap64 (x10_5 + 1)), (by first | rfl | (simp; done) | (simp [*]; done)), H', ⟨by have := HK1.out; have := HJ17.out; have := HJ21.out; have := HJ23.out; have := HK5.out; have := HJ30.out; omega⟩, ⟨by (with_reducible repeat (first | apply Kd.R_alloc | apply Kd.R_drewN | apply Kd.R_drew)); exact Kd.R_mono HO_5.out (fun _ hk => hk.2)⟩, ⟨by (with_reducible repeat (first | apply Kd.R_alloc | apply Kd.R_drewN | apply Kd.R_drew)); exact HO_7.out⟩, ⟨by repeat (first | (with_reducible first | exact HB.out | apply below_alloc | apply pw_below_drewN | apply below_drew1) | exact HB.out)⟩⟩

end Go.Proofs.Ytdnacfnmaieeiaa.Print
