-- Written for this claim by a program of this session, by way of the kit's print: functions as plain Lean, and their calls' contracts.
import Derived.Test.YtdnacfnmaieeiaaKinds
import Derived.Test.YtdnacfnmaieeiaaFpatternsMatch
import Derived.Test.YtdnacfnmaieeiaaFposthouselaw6matched
namespace Go.Proofs.Ytdnacfnmaieeiaa.Print
open Go.RowKit Go.Proofs.YtdnacfnmaieeiaaW.PrintWords Go.Proofs.YtdnacfnmaieeiaaW.PrintLast Go.Proofs.YtdnacfnmaieeiaaW.PrintMore
attribute [local go_sem] max2_int min2_int max_two min_two max_three min_three max_four min_four   -- for this text's walks alone
set_option linter.unusedVariables false
set_option linter.unusedSimpArgs false

/-! ### posthouselaw6_PatternsPiecesFit: function 9 -/
mutual
def posthouselaw6_PatternsPiecesFit.j0 : Nat → ByteArray → ByteArray → List ByteArray → Bool → Option (Bool)
 | 0, _, _, _, _ => none
 | k + 1, x0, x1, x6, x25 => if x25 = true then (if (x6.length : Int) = 0 then ((posthouselaw6_matched.f k).bind fun t556 => (some t556)) else (some false)) else (posthouselaw6_PatternsPiecesFit.l0 k x0 x1 x6 0 0 0)
def posthouselaw6_PatternsPiecesFit.l0 : Nat → ByteArray → ByteArray → List ByteArray → Int → Int → Int → Option (Bool)
 | 0, _, _, _, _, _, _ => none
 | k + 1, x0, x1, x6, x8, x9, x10 => if x10 < (x0.size : Int) then (if 0 ≤ x10 then (if (bt x0 x10) = 92 then (posthouselaw6_PatternsPiecesFit.l0 k x0 x1 x6 x8 (wrap64 (x9 + 1)) (wrap64 ((wrap64 (x10 + 1)) + 1))) else (if (bt x0 x10) = 42 then (posthouselaw6_PatternsPiecesFit.j2 k x0 x1 x6 x8 x9 x10 1 true) else (posthouselaw6_PatternsPiecesFit.j2 k x0 x1 x6 x8 x9 x10 1 ((bt x0 x10) == 63)))) else (none)) else (if x8 = (x6.length : Int) then (if x9 = (x1.size : Int) then ((posthouselaw6_matched.f k).bind fun t557 => (some t557)) else (some false)) else (some false))
def posthouselaw6_PatternsPiecesFit.j2 : Nat → ByteArray → ByteArray → List ByteArray → Int → Int → Int → Int → Bool → Option (Bool)
 | 0, _, _, _, _, _, _, _, _ => none
 | k + 1, x0, x1, x6, x8, x9, x10, x11, x53 => if x53 = true then (if x8 ≥ (x6.length : Int) then (posthouselaw6_PatternsPiecesFit.j3 k x0 x1 x6 x8 x9 x10 true) else (if 0 ≤ x10 then (if x10 < (x0.size : Int) then (if (bt x0 x10) = 63 then (if 0 ≤ x8 then (if x8 < (x6.length : Int) then (posthouselaw6_PatternsPiecesFit.j3 k x0 x1 x6 x8 x9 x10 (((rdOf ByteArray.empty x6 x8).size : Int) != 1)) else (none)) else (none)) else (posthouselaw6_PatternsPiecesFit.j3 k x0 x1 x6 x8 x9 x10 false)) else (none)) else (none))) else (posthouselaw6_PatternsPiecesFit.l0 k x0 x1 x6 x8 (wrap64 (x9 + x11)) (wrap64 (x10 + 1)))
def posthouselaw6_PatternsPiecesFit.j3 : Nat → ByteArray → ByteArray → List ByteArray → Int → Int → Int → Bool → Option (Bool)
 | 0, _, _, _, _, _, _, _ => none
 | k + 1, x0, x1, x6, x8, x9, x10, x71 => if x71 = true then (some false) else (if 0 ≤ x8 then (if x8 < (x6.length : Int) then (if (wrap64 (x9 + ((rdOf ByteArray.empty x6 x8).size : Int))) > (x1.size : Int) then (some false) else (if 0 ≤ x9 then (if x9 ≤ (wrap64 (x9 + ((rdOf ByteArray.empty x6 x8).size : Int))) then (if (wrap64 (x9 + ((rdOf ByteArray.empty x6 x8).size : Int))) ≤ (x1.size : Int) then (if (x1.extract (x9 : Int).toNat ((wrap64 (x9 + ((rdOf ByteArray.empty x6 x8).size : Int))) : Int).toNat).toList = (rdOf ByteArray.empty x6 x8).toList then (posthouselaw6_PatternsPiecesFit.l0 k x0 x1 x6 (wrap64 (x8 + 1)) (wrap64 (x9 + ((rdOf ByteArray.empty x6 x8).size : Int))) (wrap64 (x10 + 1))) else (some false)) else (none)) else (none)) else (none))) else (none)) else (none))
end
def posthouselaw6_PatternsPiecesFit.f (k : Nat) (a0 : ByteArray) (a1 : ByteArray) : Option (Bool) := (patterns_Match.f k 3 a0 a1).bind fun bt549 => (if bt549.2.2.1 = 0 then (posthouselaw6_PatternsPiecesFit.j0 k a0 a1 bt549.2.1 (!bt549.1)) else (posthouselaw6_PatternsPiecesFit.j0 k a0 a1 bt549.2.1 true))
theorem posthouselaw6_PatternsPiecesFit.mono_l : ∀ k, (∀ y0 y1 y2 y3, LeO (posthouselaw6_PatternsPiecesFit.j0 k y0 y1 y2 y3) (posthouselaw6_PatternsPiecesFit.j0 (k + 1) y0 y1 y2 y3)) ∧ (∀ y0 y1 y2 y3 y4 y5, LeO (posthouselaw6_PatternsPiecesFit.l0 k y0 y1 y2 y3 y4 y5) (posthouselaw6_PatternsPiecesFit.l0 (k + 1) y0 y1 y2 y3 y4 y5)) ∧ (∀ y0 y1 y2 y3 y4 y5 y6 y7, LeO (posthouselaw6_PatternsPiecesFit.j2 k y0 y1 y2 y3 y4 y5 y6 y7) (posthouselaw6_PatternsPiecesFit.j2 (k + 1) y0 y1 y2 y3 y4 y5 y6 y7)) ∧ (∀ y0 y1 y2 y3 y4 y5 y6, LeO (posthouselaw6_PatternsPiecesFit.j3 k y0 y1 y2 y3 y4 y5 y6) (posthouselaw6_PatternsPiecesFit.j3 (k + 1) y0 y1 y2 y3 y4 y5 y6))
 | 0 => ⟨fun _ _ _ _ r h => by simp [posthouselaw6_PatternsPiecesFit.j0] at h, fun _ _ _ _ _ _ r h => by simp [posthouselaw6_PatternsPiecesFit.l0] at h, fun _ _ _ _ _ _ _ _ r h => by simp [posthouselaw6_PatternsPiecesFit.j2] at h, fun _ _ _ _ _ _ _ r h => by simp [posthouselaw6_PatternsPiecesFit.j3] at h⟩
 | k + 1 => by
  obtain ⟨ih0, ih1, ih2, ih3⟩ := posthouselaw6_PatternsPiecesFit.mono_l k
  refine ⟨?_, ?_, ?_, ?_⟩
  ·
   intro y0 y1 y2 y3
   unfold posthouselaw6_PatternsPiecesFit.j0
   repeat' first
   | (with_reducible exact ih0 _ _ _ _)
   | (with_reducible exact ih1 _ _ _ _ _ _)
   | (with_reducible exact ih2 _ _ _ _ _ _ _ _)
   | (with_reducible exact ih3 _ _ _ _ _ _ _)
   | (with_reducible exact patterns_Match.mono _ _ _ _)
   | (with_reducible exact posthouselaw6_matched.mono _)
   | (with_reducible exact LeO.refl _)
   | (with_reducible exact LeO.none _)
   | (with_reducible refine LeO.ite ?_ ?_)
   | (with_reducible refine LeO.bind ?_ (fun _ => ?_))
   | exact ih0 _ _ _ _
   | exact ih1 _ _ _ _ _ _
   | exact ih2 _ _ _ _ _ _ _ _
   | exact ih3 _ _ _ _ _ _ _
   | exact patterns_Match.mono _ _ _ _
   | exact posthouselaw6_matched.mono _
   | exact LeO.none _
   | refine LeO.ite ?_ ?_
   | refine LeO.bind ?_ (fun _ => ?_)
  ·
   intro y0 y1 y2 y3 y4 y5
   unfold posthouselaw6_PatternsPiecesFit.l0
   repeat' first
   | (with_reducible exact ih0 _ _ _ _)
   | (with_reducible exact ih1 _ _ _ _ _ _)
   | (with_reducible exact ih2 _ _ _ _ _ _ _ _)
   | (with_reducible exact ih3 _ _ _ _ _ _ _)
   | (with_reducible exact patterns_Match.mono _ _ _ _)
   | (with_reducible exact posthouselaw6_matched.mono _)
   | (with_reducible exact LeO.refl _)
   | (with_reducible exact LeO.none _)
   | (with_reducible refine LeO.ite ?_ ?_)
   | (with_reducible refine LeO.bind ?_ (fun _ => ?_))
   | exact ih0 _ _ _ _
   | exact ih1 _ _ _ _ _ _
   | exact ih2 _ _ _ _ _ _ _ _
   | exact ih3 _ _ _ _ _ _ _
   | exact patterns_Match.mono _ _ _ _
   | exact posthouselaw6_matched.mono _
   | exact LeO.none _
   | refine LeO.ite ?_ ?_
   | refine LeO.bind ?_ (fun _ => ?_)
  ·
   intro y0 y1 y2 y3 y4 y5 y6 y7
   unfold posthouselaw6_PatternsPiecesFit.j2
   repeat' first
   | (with_reducible exact ih0 _ _ _ _)
   | (with_reducible exact ih1 _ _ _ _ _ _)
   | (with_reducible exact ih2 _ _ _ _ _ _ _ _)
   | (with_reducible exact ih3 _ _ _ _ _ _ _)
   | (with_reducible exact patterns_Match.mono _ _ _ _)
   | (with_reducible exact posthouselaw6_matched.mono _)
   | (with_reducible exact LeO.refl _)
   | (with_reducible exact LeO.none _)
   | (with_reducible refine LeO.ite ?_ ?_)
   | (with_reducible refine LeO.bind ?_ (fun _ => ?_))
   | exact ih0 _ _ _ _
   | exact ih1 _ _ _ _ _ _
   | exact ih2 _ _ _ _ _ _ _ _
   | exact ih3 _ _ _ _ _ _ _
   | exact patterns_Match.mono _ _ _ _
   | exact posthouselaw6_matched.mono _
   | exact LeO.none _
   | refine LeO.ite ?_ ?_
   | refine LeO.bind ?_ (fun _ => ?_)
  ·
   intro y0 y1 y2 y3 y4 y5 y6
   unfold posthouselaw6_PatternsPiecesFit.j3
   repeat' first
   | (with_reducible exact ih0 _ _ _ _)
   | (with_reducible exact ih1 _ _ _ _ _ _)
   | (with_reducible exact ih2 _ _ _ _ _ _ _ _)
   | (with_reducible exact ih3 _ _ _ _ _ _ _)
   | (with_reducible exact patterns_Match.mono _ _ _ _)
   | (with_reducible exact posthouselaw6_matched.mono _)
   | (with_reducible exact LeO.refl _)
   | (with_reducible exact LeO.none _)
   | (with_reducible refine LeO.ite ?_ ?_)
   | (with_reducible refine LeO.bind ?_ (fun _ => ?_))
   | exact ih0 _ _ _ _
   | exact ih1 _ _ _ _ _ _
   | exact ih2 _ _ _ _ _ _ _ _
   | exact ih3 _ _ _ _ _ _ _
   | exact patterns_Match.mono _ _ _ _
   | exact posthouselaw6_matched.mono _
   | exact LeO.none _
   | refine LeO.ite ?_ ?_
   | refine LeO.bind ?_ (fun _ => ?_)
theorem posthouselaw6_PatternsPiecesFit.mono : ∀ a0 a1 k, LeO (posthouselaw6_PatternsPiecesFit.f k a0 a1) (posthouselaw6_PatternsPiecesFit.f (k + 1) a0 a1) := by
 intro a0 a1 k
 obtain ⟨ih0, ih1, ih2, ih3⟩ := posthouselaw6_PatternsPiecesFit.mono_l k
 unfold posthouselaw6_PatternsPiecesFit.f
 repeat' first
   | (with_reducible exact ih0 _ _ _ _)
   | (with_reducible exact ih1 _ _ _ _ _ _)
   | (with_reducible exact ih2 _ _ _ _ _ _ _ _)
   | (with_reducible exact ih3 _ _ _ _ _ _ _)
   | (with_reducible exact patterns_Match.mono _ _ _ _)
   | (with_reducible exact posthouselaw6_matched.mono _)
   | (with_reducible exact LeO.refl _)
   | (with_reducible exact LeO.none _)
   | (with_reducible refine LeO.ite ?_ ?_)
   | (with_reducible refine LeO.bind ?_ (fun _ => ?_))
   | exact ih0 _ _ _ _
   | exact ih1 _ _ _ _ _ _
   | exact ih2 _ _ _ _ _ _ _ _
   | exact ih3 _ _ _ _ _ _ _
   | exact patterns_Match.mono _ _ _ _
   | exact posthouselaw6_matched.mono _
   | exact LeO.none _
   | refine LeO.ite ?_ ?_
   | refine LeO.bind ?_ (fun _ => ?_)
set_option maxHeartbeats 8000000 in
set_option maxRecDepth 100000 in
theorem posthouselaw6_PatternsPiecesFit.calls (k : Nat) (a0 : ByteArray) (a1 : ByteArray) (r : Bool) (w : World) (h : posthouselaw6_PatternsPiecesFit.f k a0 a1 = some r) :
  Calls Try.prog 9 #[.string a0, .string a1] w fun e w' => e = .returned (.bool r) ∧ Below w.heap.size w w' := by
 have hu27 := Try.underlying27
 have HB := Aside0.mk (Below.refl w.heap.size w)
 have H : ((patterns_Match.f k 3 a0 a1).bind fun bt549 => (if bt549.2.2.1 = 0 then (posthouselaw6_PatternsPiecesFit.j0 k a0 a1 bt549.2.1 (!bt549.1)) else (posthouselaw6_PatternsPiecesFit.j0 k a0 a1 bt549.2.1 true))) = some r := h
 clear h
 replace H := Option.bind_eq_some_iff.mp H
 obtain ⟨⟨t549, t550, t553, t554⟩, A30, H⟩ := H
 replace H : (if t553 = 0 then (posthouselaw6_PatternsPiecesFit.j0 k a0 a1 t550 (!t549)) else (posthouselaw6_PatternsPiecesFit.j0 k a0 a1 t550 true)) = some r := H
 have A3 := Aside0.mk A30
 clear A30
 have HC4 := Aside0.mk H
 clear H
 go_enter Try.func9, Try.ntmps9
 go_upto_region 2 with (first | (go_at_call 15; (with_reducible refine (patterns_Match.calls k 3 a0 a1 t549 t550 t553 t554 _ A3.out).mono ?_); rintro e w5 ⟨v551, rfl, ho0, hb⟩; have n0_ := Aside0.mk (Kd.R_lower ho0 (below_size (by repeat (first | (with_reducible first | exact HB.out | apply below_alloc | apply pw_below_drewN | apply below_drew1) | exact HB.out)))); have n1_ := Aside0.mk (below_step (by repeat (first | (with_reducible first | exact HB.out | apply below_alloc | apply pw_below_drewN | apply below_drew1) | exact HB.out)) hb); clear HB; have HO552 := n0_; have HB := n1_; clear n0_ n1_; (try clear hb); (try clear hb2); (try clear hk); (try clear hi); (try clear ho0)) | ((with_reducible refine gate_dst (N := 7) rfl ?_); (try (refine gate_guard (by rfl) ?_; dsimp only)); refine box_event ?hg (N := 7) ?hd (cs := #[.int .i64 0, .int .i64 0]) (t := 27) ?hr ?_; (case hd => rfl); (case hg => rfl); (case hr => first | (go_simp; done) | (go_simp; rfl)); intro gb555 hg w6 hbox hb; have n0_ := Aside0.mk (Kd.R_below (by (with_reducible repeat (first | apply Kd.R_alloc | apply Kd.R_drewN | apply Kd.R_drew)); exact HO552.out) hb); have n1_ := Aside0.mk (below_step (by repeat (first | (with_reducible first | exact HB.out | apply below_alloc | apply pw_below_drewN | apply below_drew1) | exact HB.out)) hb); have n2_ := Aside0.mk (hbox); have n3_ := Aside0.mk ((by rw [hg]; exact (below_size (by repeat (first | (with_reducible first | exact HB.out | apply below_alloc | apply pw_below_drewN | apply below_drew1) | exact HB.out))) : w.heap.size ≤ gb555)); have n4_ := Aside0.mk ((by rw [hg]; exact (below_size (by repeat (first | (with_reducible first | exact HB.out | apply below_alloc | apply pw_below_drewN | apply below_drew1) | exact HB.out))) : w.heap.size ≤ gb555)); clear HO552; clear HB; have HO552 := n0_; have HB := n1_; have BK555 := n2_; have GW555 := n3_; have GE555 := n4_; clear n0_ n1_ n2_ n3_ n4_; clear hb hbox hg; have hcz7_0 : w6.cell? ⟨gb555, 0, none⟩ = some (.int .i64 0) := (blk_cell BK555.out 0).trans rfl; have hcz7_1 : w6.cell? ⟨gb555, 1, none⟩ = some (.int .i64 0) := (blk_cell BK555.out 1).trans rfl; have hfz7_0 := blk_frozen BK555.out 0; have hfz7_1 := blk_frozen BK555.out 1))
 repeat (go_quiet (first | (go_at_call 15; (with_reducible refine (patterns_Match.calls k 3 a0 a1 t549 t550 t553 t554 _ A3.out).mono ?_); rintro e w5 ⟨v551, rfl, ho0, hb⟩; have n0_ := Aside0.mk (Kd.R_lower ho0 (below_size (by repeat (first | (with_reducible first | exact HB.out | apply below_alloc | apply pw_below_drewN | apply below_drew1) | exact HB.out)))); have n1_ := Aside0.mk (below_step (by repeat (first | (with_reducible first | exact HB.out | apply below_alloc | apply pw_below_drewN | apply below_drew1) | exact HB.out)) hb); clear HB; have HO552 := n0_; have HB := n1_; clear n0_ n1_; (try clear hb); (try clear hb2); (try clear hk); (try clear hi); (try clear ho0)) | ((with_reducible refine gate_dst (N := 7) rfl ?_); (try (refine gate_guard (by rfl) ?_; dsimp only)); refine box_event ?hg (N := 7) ?hd (cs := #[.int .i64 0, .int .i64 0]) (t := 27) ?hr ?_; (case hd => rfl); (case hg => rfl); (case hr => first | (go_simp; done) | (go_simp; rfl)); intro gb555 hg w6 hbox hb; have n0_ := Aside0.mk (Kd.R_below (by (with_reducible repeat (first | apply Kd.R_alloc | apply Kd.R_drewN | apply Kd.R_drew)); exact HO552.out) hb); have n1_ := Aside0.mk (below_step (by repeat (first | (with_reducible first | exact HB.out | apply below_alloc | apply pw_below_drewN | apply below_drew1) | exact HB.out)) hb); have n2_ := Aside0.mk (hbox); have n3_ := Aside0.mk ((by rw [hg]; exact (below_size (by repeat (first | (with_reducible first | exact HB.out | apply below_alloc | apply pw_below_drewN | apply below_drew1) | exact HB.out))) : w.heap.size ≤ gb555)); have n4_ := Aside0.mk ((by rw [hg]; exact (below_size (by repeat (first | (with_reducible first | exact HB.out | apply below_alloc | apply pw_below_drewN | apply below_drew1) | exact HB.out))) : w.heap.size ≤ gb555)); clear HO552; clear HB; have HO552 := n0_; have HB := n1_; have BK555 := n2_; have GW555 := n3_; have GE555 := n4_; clear n0_ n1_ n2_ n3_ n4_; clear hb hbox hg; have hcz7_0 : w6.cell? ⟨gb555, 0, none⟩ = some (.int .i64 0) := (blk_cell BK555.out 0).trans rfl; have hcz7_1 : w6.cell? ⟨gb555, 1, none⟩ = some (.int .i64 0) := (blk_cell BK555.out 1).trans rfl; have hfz7_0 := blk_frozen BK555.out 0; have hfz7_1 := blk_frozen BK555.out 1)); go_upto_region 2 with (first | (go_at_call 15; (with_reducible refine (patterns_Match.calls k 3 a0 a1 t549 t550 t553 t554 _ A3.out).mono ?_); rintro e w5 ⟨v551, rfl, ho0, hb⟩; have n0_ := Aside0.mk (Kd.R_lower ho0 (below_size (by repeat (first | (with_reducible first | exact HB.out | apply below_alloc | apply pw_below_drewN | apply below_drew1) | exact HB.out)))); have n1_ := Aside0.mk (below_step (by repeat (first | (with_reducible first | exact HB.out | apply below_alloc | apply pw_below_drewN | apply below_drew1) | exact HB.out)) hb); clear HB; have HO552 := n0_; have HB := n1_; clear n0_ n1_; (try clear hb); (try clear hb2); (try clear hk); (try clear hi); (try clear ho0)) | ((with_reducible refine gate_dst (N := 7) rfl ?_); (try (refine gate_guard (by rfl) ?_; dsimp only)); refine box_event ?hg (N := 7) ?hd (cs := #[.int .i64 0, .int .i64 0]) (t := 27) ?hr ?_; (case hd => rfl); (case hg => rfl); (case hr => first | (go_simp; done) | (go_simp; rfl)); intro gb555 hg w6 hbox hb; have n0_ := Aside0.mk (Kd.R_below (by (with_reducible repeat (first | apply Kd.R_alloc | apply Kd.R_drewN | apply Kd.R_drew)); exact HO552.out) hb); have n1_ := Aside0.mk (below_step (by repeat (first | (with_reducible first | exact HB.out | apply below_alloc | apply pw_below_drewN | apply below_drew1) | exact HB.out)) hb); have n2_ := Aside0.mk (hbox); have n3_ := Aside0.mk ((by rw [hg]; exact (below_size (by repeat (first | (with_reducible first | exact HB.out | apply below_alloc | apply pw_below_drewN | apply below_drew1) | exact HB.out))) : w.heap.size ≤ gb555)); have n4_ := Aside0.mk ((by rw [hg]; exact (below_size (by repeat (first | (with_reducible first | exact HB.out | apply below_alloc | apply pw_below_drewN | apply below_drew1) | exact HB.out))) : w.heap.size ≤ gb555)); clear HO552; clear HB; have HO552 := n0_; have HB := n1_; have BK555 := n2_; have GW555 := n3_; have GE555 := n4_; clear n0_ n1_ n2_ n3_ n4_; clear hb hbox hg; have hcz7_0 : w6.cell? ⟨gb555, 0, none⟩ = some (.int .i64 0) := (blk_cell BK555.out 0).trans rfl; have hcz7_1 : w6.cell? ⟨gb555, 1, none⟩ = some (.int .i64 0) := (blk_cell BK555.out 1).trans rfl; have hfz7_0 := blk_frozen BK555.out 0; have hfz7_1 := blk_frozen BK555.out 1)))
 (try simp only [Act.put, List.setIfInBounds_toArray, List.set_cons_zero, List.set_cons_succ])
 go_cut [25] (fun v25 wc => ∃ (kq : Nat) (x25_3 : Bool), v25 = .bool x25_3 ∧ Aside0 (posthouselaw6_PatternsPiecesFit.j0 kq a0 a1 t550 x25_3 = some r) ∧ Aside0 (kq ≤ k) ∧ Aside0 (Kd.R Kd.string 9 wc w.heap.size (fun _ => True) v551 t550) ∧ Aside0 (wc.heap[gb555]? = some (.cells #[.int .i64 t553, .int .i64 t554] 27 (0, 0))) ∧ Aside0 (Below w.heap.size w wc))
 case first =>
  have H := HC4.out
  clear HC4
  by_cases c8 : t553 = 0
  rotate_left
  ·
   rw [if_neg c8] at H
   have c8b0 : (t553 == 0) = false := beq_eq_false_iff_ne.mpr c8
   have c8b1 : (t553 != 0) = true := bne_iff_ne.mpr c8
   (first | rw [c8b0] | (simp only [i64_w, i32_w]; rw [c8b0]) | skip)
   have H' := Aside0.mk H
   clear H
   have hcz10_0 : w6.cell? ⟨gb555, 0, none⟩ = some (.int .i64 0) := (blk_cell BK555.out 0).trans rfl
   have hcz10_1 : w6.cell? ⟨gb555, 1, none⟩ = some (.int .i64 0) := (blk_cell BK555.out 1).trans rfl
   have hfz10_0 := blk_frozen BK555.out 0
   have hfz10_1 := blk_frozen BK555.out 1
   go_wp2
   repeat (go_quiet (fail); try go_wp2)
   go_meet
   case rel => exact ⟨_, (true), (by first | rfl | (simp; done) | (simp [*]; done)), H', ⟨by first | omega | exact Nat.le_refl _⟩, ⟨by (with_reducible repeat (first | apply Kd.R_alloc | apply Kd.R_drewN | apply Kd.R_drew)); exact Kd.R_mono (Kd.R_far (p := ⟨gb555, 1, none⟩) (Kd.R_far (p := ⟨gb555, 0, none⟩) (Kd.R_types HO552.out BK555.out (by decide)) (fun _ hk => hk.2) (.int .i64 t553)) (fun _ hk => hk.2) (.int .i64 t554)) (fun _ hk => trivial)⟩, ⟨by (with_reducible repeat (first | refine blk_drewN ?_ _ | refine blk_drew ?_ | refine blk_alloc ?_ _)); refine blk_put (cs := #[.int .i64 t553, .int .i64 0]) ?_ 1 _ rfl; (with_reducible repeat (first | refine blk_drewN ?_ _ | refine blk_drew ?_ | refine blk_alloc ?_ _)); refine blk_put (cs := #[.int .i64 0, .int .i64 0]) ?_ 0 _ rfl; (with_reducible repeat (first | refine blk_drewN ?_ _ | refine blk_drew ?_ | refine blk_alloc ?_ _)); exact BK555.out⟩, ⟨by repeat (first | (with_reducible first | exact HB.out | apply below_alloc | apply pw_below_drewN | apply below_drew1 | refine below_set ?_ GE555.out) | exact HB.out)⟩⟩
  rw [if_pos c8] at H
  have c8b0 : (t553 == 0) = true := beq_iff_eq.mpr c8
  have c8b1 : (t553 != 0) = false := bne_eq_false_iff_eq.mpr c8
  clear c8
  (first | rw [c8b0] | (simp only [i64_w, i32_w]; rw [c8b0]) | skip)
  have H' := Aside0.mk H
  clear H
  have hcz9_0 : w6.cell? ⟨gb555, 0, none⟩ = some (.int .i64 0) := (blk_cell BK555.out 0).trans rfl
  have hcz9_1 : w6.cell? ⟨gb555, 1, none⟩ = some (.int .i64 0) := (blk_cell BK555.out 1).trans rfl
  have hfz9_0 := blk_frozen BK555.out 0
  have hfz9_1 := blk_frozen BK555.out 1
  go_wp2
  repeat (go_quiet (fail); try go_wp2)
  go_meet
  case rel => exact ⟨_, (!t549), (by first | rfl | (simp; done) | (simp [*]; done)), H', ⟨by first | omega | exact Nat.le_refl _⟩, ⟨by (with_reducible repeat (first | apply Kd.R_alloc | apply Kd.R_drewN | apply Kd.R_drew)); exact Kd.R_mono (Kd.R_far (p := ⟨gb555, 1, none⟩) (Kd.R_far (p := ⟨gb555, 0, none⟩) (Kd.R_types HO552.out BK555.out (by decide)) (fun _ hk => hk.2) (.int .i64 t553)) (fun _ hk => hk.2) (.int .i64 t554)) (fun _ hk => trivial)⟩, ⟨by (with_reducible repeat (first | refine blk_drewN ?_ _ | refine blk_drew ?_ | refine blk_alloc ?_ _)); refine blk_put (cs := #[.int .i64 t553, .int .i64 0]) ?_ 1 _ rfl; (with_reducible repeat (first | refine blk_drewN ?_ _ | refine blk_drew ?_ | refine blk_alloc ?_ _)); refine blk_put (cs := #[.int .i64 0, .int .i64 0]) ?_ 0 _ rfl; (with_reducible repeat (first | refine blk_drewN ?_ _ | refine blk_drew ?_ | refine blk_alloc ?_ _)); exact BK555.out⟩, ⟨by repeat (first | (with_reducible first | exact HB.out | apply below_alloc | apply pw_below_drewN | apply below_drew1 | refine below_set ?_ GE555.out) | exact HB.out)⟩⟩
 case rest =>
  clear HC4
  (try clear p2); (try clear c8); (try clear c8b0); (try clear c8b1); (try clear c9); (try clear hcz10_0); (try clear hcz10_1); (try clear hcz7_0); (try clear hcz7_1); (try clear hcz9_0); (try clear hcz9_1); (try clear hfz10_0); (try clear hfz10_1); (try clear hfz7_0); (try clear hfz7_1); (try clear hfz9_0); (try clear hfz9_1)
  obtain ⟨kq, x25_3, rfl, HA, HJ3, HO_6, BK555, HB⟩ := hcut
  cases kq with
  | zero => exact absurd HA.out (by simp [posthouselaw6_PatternsPiecesFit.j0])
  | succ kj3 =>
   have H := HA.out
   clear HA
   simp only [posthouselaw6_PatternsPiecesFit.j0] at H
   by_cases c11 : x25_3 = true
   ·
    subst c11
    have H1 : (if (t550.length : Int) = 0 then ((posthouselaw6_matched.f kj3).bind fun t556 => (some t556)) else (some false)) = some r := by rw [if_pos rfl] at H; exact H
    clear H
    have H := H1
    clear H1
    by_cases c12 : (t550.length : Int) = 0
    rotate_left
    ·
     rw [if_neg c12] at H
     have c12b0 : ((t550.length : Int) == 0) = false := beq_eq_false_iff_ne.mpr c12
     have c12b1 : ((t550.length : Int) != 0) = true := bne_iff_ne.mpr c12
     have c12b2 : ¬ (t550 = []) := fun h_ => c12 (by rw [h_]; rfl)
     obtain rfl := Option.some.inj H
     obtain ⟨Ao16, co16, eo16⟩ := Kd.R_slice HO_6.out
     subst eo16
     go_wp2
     repeat (go_quiet (fail); try go_wp2)
     go_ret
     exact ⟨by first | rfl | (simp [errW_none, errW_some] <;> rfl) | (simp [*, errW_none, errW_some] <;> rfl), by repeat (first | (with_reducible first | exact HB.out | apply below_alloc | apply pw_below_drewN | apply below_drew1 | refine below_set ?_ GE555.out) | exact HB.out)⟩
    rw [if_pos c12] at H
    have c12b0 : ((t550.length : Int) == 0) = true := beq_iff_eq.mpr c12
    have c12b1 : ((t550.length : Int) != 0) = false := bne_eq_false_iff_eq.mpr c12
    clear c12
    replace H := Option.bind_eq_some_iff.mp H
    obtain ⟨t556, A130, H⟩ := H
    replace H : (some t556) = some r := H
    have A13 := Aside0.mk A130
    clear A130
    obtain rfl := Option.some.inj H
    obtain ⟨Ao14, co14, eo14⟩ := Kd.R_slice HO_6.out
    subst eo14
    go_wp2_with (first | (go_at_call 18; (with_reducible refine (posthouselaw6_matched.calls kj3  t556 _ A13.out).mono ?_); rintro e w15 ⟨rfl, hb⟩; have n0_ := Aside0.mk (Kd.R_below (by (with_reducible repeat (first | apply Kd.R_alloc | apply Kd.R_drewN | apply Kd.R_drew)); exact HO_6.out) hb); have n1_ := Aside0.mk (blk_below (g := gb555) (o := .cells #[.int .i64 t553, .int .i64 t554] 27 (0, 0)) (by (with_reducible repeat (first | refine blk_drewN ?_ _ | refine blk_drew ?_ | refine blk_alloc ?_ _)); exact BK555.out) hb); have n2_ := Aside0.mk (below_step (by repeat (first | (with_reducible first | exact HB.out | apply below_alloc | apply pw_below_drewN | apply below_drew1 | refine below_set ?_ GE555.out) | exact HB.out)) hb); clear HO_6; clear BK555; clear HB; have HO_6 := n0_; have BK555 := n1_; have HB := n2_; clear n0_ n1_ n2_; (try clear hb); (try clear hb2); (try clear hk); (try clear hi)))
    repeat (go_quiet (first | (go_at_call 18; (with_reducible refine (posthouselaw6_matched.calls kj3  t556 _ A13.out).mono ?_); rintro e w15 ⟨rfl, hb⟩; have n0_ := Aside0.mk (Kd.R_below (by (with_reducible repeat (first | apply Kd.R_alloc | apply Kd.R_drewN | apply Kd.R_drew)); exact HO_6.out) hb); have n1_ := Aside0.mk (blk_below (g := gb555) (o := .cells #[.int .i64 t553, .int .i64 t554] 27 (0, 0)) (by (with_reducible repeat (first | refine blk_drewN ?_ _ | refine blk_drew ?_ | refine blk_alloc ?_ _)); exact BK555.out) hb); have n2_ := Aside0.mk (below_step (by repeat (first | (with_reducible first | exact HB.out | apply below_alloc | apply pw_below_drewN | apply below_drew1 | refine below_set ?_ GE555.out) | exact HB.out)) hb); clear HO_6; clear BK555; clear HB; have HO_6 := n0_; have BK555 := n1_; have HB := n2_; clear n0_ n1_ n2_; (try clear hb); (try clear hb2); (try clear hk); (try clear hi))); try go_wp2_with (first | (go_at_call 18; (with_reducible refine (posthouselaw6_matched.calls kj3  t556 _ A13.out).mono ?_); rintro e w15 ⟨rfl, hb⟩; have n0_ := Aside0.mk (Kd.R_below (by (with_reducible repeat (first | apply Kd.R_alloc | apply Kd.R_drewN | apply Kd.R_drew)); exact HO_6.out) hb); have n1_ := Aside0.mk (blk_below (g := gb555) (o := .cells #[.int .i64 t553, .int .i64 t554] 27 (0, 0)) (by (with_reducible repeat (first | refine blk_drewN ?_ _ | refine blk_drew ?_ | refine blk_alloc ?_ _)); exact BK555.out) hb); have n2_ := Aside0.mk (below_step (by repeat (first | (with_reducible first | exact HB.out | apply below_alloc | apply pw_below_drewN | apply below_drew1 | refine below_set ?_ GE555.out) | exact HB.out)) hb); clear HO_6; clear BK555; clear HB; have HO_6 := n0_; have BK555 := n1_; have HB := n2_; clear n0_ n1_ n2_; (try clear hb); (try clear hb2); (try clear hk); (try clear hi))))
    go_ret
    exact ⟨by first | rfl | (simp [errW_none, errW_some] <;> rfl) | (simp [*, errW_none, errW_some] <;> rfl), by repeat (first | (with_reducible first | exact HB.out | apply below_alloc | apply pw_below_drewN | apply below_drew1 | refine below_set ?_ GE555.out) | exact HB.out)⟩
   replace c11 := Bool.eq_false_iff.mpr c11
   subst c11
   have H1 : (posthouselaw6_PatternsPiecesFit.l0 kj3 a0 a1 t550 0 0 0) = some r := by rw [if_neg (show ¬ (false = true) by decide)] at H; exact H
   clear H
   have H := H1
   clear H1
   have H' := Aside0.mk H
   clear H
   go_wp2
   repeat (go_quiet (fail); try go_wp2)
   go_loopg [8, 9, 10] kj3 (fun kq v8 v9 v10 w' => ∃ (x8_2 : Int) (x9_2 : Int) (x10_2 : Int), v8 = .int .i64 x8_2 ∧ v9 = .int .i64 x9_2 ∧ v10 = .int .i64 x10_2 ∧ Aside0 (posthouselaw6_PatternsPiecesFit.l0 kq a0 a1 t550 x8_2 x9_2 x10_2 = some r) ∧ Aside0 (kq ≤ kj3) ∧ Aside0 (Kd.R Kd.string 9 w' w.heap.size (fun _ => True) v551 t550) ∧ Aside0 (w'.heap[gb555]? = some (.cells #[.int .i64 t553, .int .i64 t554] 27 (0, 0))) ∧ Aside0 (Below w.heap.size w w'))
   case atStart => exact ⟨(0), (0), (0), (by first | rfl | (simp; done) | (simp [*]; done)), (by first | rfl | (simp; done) | (simp [*]; done)), (by first | rfl | (simp; done) | (simp [*]; done)), H', ⟨Nat.le_refl _⟩, ⟨by (with_reducible repeat (first | apply Kd.R_alloc | apply Kd.R_drewN | apply Kd.R_drew)); exact HO_6.out⟩, ⟨by (with_reducible repeat (first | refine blk_drewN ?_ _ | refine blk_drew ?_ | refine blk_alloc ?_ _)); exact BK555.out⟩, ⟨by repeat (first | (with_reducible first | exact HB.out | apply below_alloc | apply pw_below_drewN | apply below_drew1 | refine below_set ?_ GE555.out) | exact HB.out)⟩⟩
   case round =>
    clear H'
    (try clear c1); (try clear p2); (try clear c8); (try clear c8b0); (try clear c8b1); (try clear c9); (try clear c11); (try clear c12); (try clear c12b0); (try clear c12b1); (try clear c12b2); (try clear hcz10_0); (try clear hcz10_1); (try clear hcz7_0); (try clear hcz7_1); (try clear hcz9_0); (try clear hcz9_1); (try clear hfz10_0); (try clear hfz10_1); (try clear hfz7_0); (try clear hfz7_1); (try clear hfz9_0); (try clear hfz9_1); (try clear p2)
    obtain ⟨x8_2, x9_2, x10_2, rfl, rfl, rfl, HA, HK2, HO_6, BK555, HB⟩ := hrel
    cases gk with
    | zero => exact absurd HA.out (by simp [posthouselaw6_PatternsPiecesFit.l0])
    | succ k2 =>
     have H := HA.out
     clear HA
     simp only [posthouselaw6_PatternsPiecesFit.l0] at H
     by_cases c17 : x10_2 < (a0.size : Int)
     rotate_left
     ·
      rw [if_neg c17] at H
      have c17b0 : decide (x10_2 < (a0.size : Int)) = false := decide_eq_false c17
      clear c17
      by_cases c48 : x8_2 = (t550.length : Int)
      rotate_left
      ·
       rw [if_neg c48] at H
       have c48b0 : (x8_2 == (t550.length : Int)) = false := beq_eq_false_iff_ne.mpr c48
       have c48b1 : (x8_2 != (t550.length : Int)) = true := bne_iff_ne.mpr c48
       obtain rfl := Option.some.inj H
       obtain ⟨Ao54, co54, eo54⟩ := Kd.R_slice HO_6.out
       subst eo54
       go_wp2
       repeat (go_quiet (fail); try go_wp2)
       go_ret
       exact ⟨by first | rfl | (simp [errW_none, errW_some] <;> rfl) | (simp [*, errW_none, errW_some] <;> rfl), by repeat (first | (with_reducible first | exact HB.out | apply below_alloc | apply pw_below_drewN | apply below_drew1 | refine below_set ?_ GE555.out) | exact HB.out)⟩
      rw [if_pos c48] at H
      have c48b0 : (x8_2 == (t550.length : Int)) = true := beq_iff_eq.mpr c48
      have c48b1 : (x8_2 != (t550.length : Int)) = false := bne_eq_false_iff_eq.mpr c48
      clear c48
      by_cases c49 : x9_2 = (a1.size : Int)
      rotate_left
      ·
       rw [if_neg c49] at H
       have c49b0 : (x9_2 == (a1.size : Int)) = false := beq_eq_false_iff_ne.mpr c49
       have c49b1 : (x9_2 != (a1.size : Int)) = true := bne_iff_ne.mpr c49
       obtain rfl := Option.some.inj H
       obtain ⟨Ao53, co53, eo53⟩ := Kd.R_slice HO_6.out
       subst eo53
       go_wp2
       repeat (go_quiet (fail); try go_wp2)
       go_ret
       exact ⟨by first | rfl | (simp [errW_none, errW_some] <;> rfl) | (simp [*, errW_none, errW_some] <;> rfl), by repeat (first | (with_reducible first | exact HB.out | apply below_alloc | apply pw_below_drewN | apply below_drew1 | refine below_set ?_ GE555.out) | exact HB.out)⟩
      rw [if_pos c49] at H
      have c49b0 : (x9_2 == (a1.size : Int)) = true := beq_iff_eq.mpr c49
      have c49b1 : (x9_2 != (a1.size : Int)) = false := bne_eq_false_iff_eq.mpr c49
      clear c49
      replace H := Option.bind_eq_some_iff.mp H
      obtain ⟨t557, A500, H⟩ := H
      replace H : (some t557) = some r := H
      have A50 := Aside0.mk A500
      clear A500
      obtain rfl := Option.some.inj H
      obtain ⟨Ao51, co51, eo51⟩ := Kd.R_slice HO_6.out
      subst eo51
      go_wp2_with (first | (go_at_call 18; (with_reducible refine (posthouselaw6_matched.calls k2  t557 _ A50.out).mono ?_); rintro e w52 ⟨rfl, hb⟩; have n0_ := Aside0.mk (Kd.R_below (by (with_reducible repeat (first | apply Kd.R_alloc | apply Kd.R_drewN | apply Kd.R_drew)); exact HO_6.out) hb); have n1_ := Aside0.mk (blk_below (g := gb555) (o := .cells #[.int .i64 t553, .int .i64 t554] 27 (0, 0)) (by (with_reducible repeat (first | refine blk_drewN ?_ _ | refine blk_drew ?_ | refine blk_alloc ?_ _)); exact BK555.out) hb); have n2_ := Aside0.mk (below_step (by repeat (first | (with_reducible first | exact HB.out | apply below_alloc | apply pw_below_drewN | apply below_drew1 | refine below_set ?_ GE555.out) | exact HB.out)) hb); clear HO_6; clear BK555; clear HB; have HO_6 := n0_; have BK555 := n1_; have HB := n2_; clear n0_ n1_ n2_; (try clear hb); (try clear hb2); (try clear hk); (try clear hi)))
      repeat (go_quiet (first | (go_at_call 18; (with_reducible refine (posthouselaw6_matched.calls k2  t557 _ A50.out).mono ?_); rintro e w52 ⟨rfl, hb⟩; have n0_ := Aside0.mk (Kd.R_below (by (with_reducible repeat (first | apply Kd.R_alloc | apply Kd.R_drewN | apply Kd.R_drew)); exact HO_6.out) hb); have n1_ := Aside0.mk (blk_below (g := gb555) (o := .cells #[.int .i64 t553, .int .i64 t554] 27 (0, 0)) (by (with_reducible repeat (first | refine blk_drewN ?_ _ | refine blk_drew ?_ | refine blk_alloc ?_ _)); exact BK555.out) hb); have n2_ := Aside0.mk (below_step (by repeat (first | (with_reducible first | exact HB.out | apply below_alloc | apply pw_below_drewN | apply below_drew1 | refine below_set ?_ GE555.out) | exact HB.out)) hb); clear HO_6; clear BK555; clear HB; have HO_6 := n0_; have BK555 := n1_; have HB := n2_; clear n0_ n1_ n2_; (try clear hb); (try clear hb2); (try clear hk); (try clear hi))); try go_wp2_with (first | (go_at_call 18; (with_reducible refine (posthouselaw6_matched.calls k2  t557 _ A50.out).mono ?_); rintro e w52 ⟨rfl, hb⟩; have n0_ := Aside0.mk (Kd.R_below (by (with_reducible repeat (first | apply Kd.R_alloc | apply Kd.R_drewN | apply Kd.R_drew)); exact HO_6.out) hb); have n1_ := Aside0.mk (blk_below (g := gb555) (o := .cells #[.int .i64 t553, .int .i64 t554] 27 (0, 0)) (by (with_reducible repeat (first | refine blk_drewN ?_ _ | refine blk_drew ?_ | refine blk_alloc ?_ _)); exact BK555.out) hb); have n2_ := Aside0.mk (below_step (by repeat (first | (with_reducible first | exact HB.out | apply below_alloc | apply pw_below_drewN | apply below_drew1 | refine below_set ?_ GE555.out) | exact HB.out)) hb); clear HO_6; clear BK555; clear HB; have HO_6 := n0_; have BK555 := n1_; have HB := n2_; clear n0_ n1_ n2_; (try clear hb); (try clear hb2); (try clear hk); (try clear hi))))
      go_ret
      exact ⟨by first | rfl | (simp [errW_none, errW_some] <;> rfl) | (simp [*, errW_none, errW_some] <;> rfl), by repeat (first | (with_reducible first | exact HB.out | apply below_alloc | apply pw_below_drewN | apply below_drew1 | refine below_set ?_ GE555.out) | exact HB.out)⟩
     rw [if_pos c17] at H
     have c17b0 : decide (x10_2 < (a0.size : Int)) = true := decide_eq_true c17
     clear c17
     by_cases c18 : 0 ≤ x10_2
     rotate_left
     ·
      rw [if_neg c18] at H
      exact absurd H (by simp)
     rw [if_pos c18] at H
     have c18b0 : decide (0 ≤ x10_2) = true := decide_eq_true c18
     clear c18
     by_cases c20 : (bt a0 x10_2) = 92
     ·
      rw [if_pos c20] at H
      have c20b0 : ((bt a0 x10_2) == 92) = true := beq_iff_eq.mpr c20
      have c20b1 : ((bt a0 x10_2) != 92) = false := bne_eq_false_iff_eq.mpr c20
      clear c20
      have H' := Aside0.mk H
      clear H
      have p19 : 0 ≤ (x10_2 : Int) := of_decide_eq_true (by first | (with_reducible assumption) | assumption)
      have q19 : x10_2 < (a0.size : Int) := of_decide_eq_true (by first | (with_reducible assumption) | assumption)
      have hx19 := bt_at a0 x10_2
      replace p19 := eq_true p19
      replace q19 := eq_true q19
      go_wp2
      repeat (go_quiet (fail); try go_wp2)
      go_roundg k2
      case measure => have := HJ3.out; have := HK2.out; omega
      case rel => exact ⟨(x8_2), (wrap64 (x9_2 + 1)), (wrap64 ((wrap64 (x10_2 + 1)) + 1)), (by first | rfl | (simp; done) | (simp [*]; done)), (by first | rfl | (simp; done) | (simp [*]; done)), (by first | rfl | (simp; done) | (simp [*]; done)), H', ⟨by have := HJ3.out; have := HK2.out; omega⟩, ⟨by (with_reducible repeat (first | apply Kd.R_alloc | apply Kd.R_drewN | apply Kd.R_drew)); exact HO_6.out⟩, ⟨by (with_reducible repeat (first | refine blk_drewN ?_ _ | refine blk_drew ?_ | refine blk_alloc ?_ _)); exact BK555.out⟩, ⟨by repeat (first | (with_reducible first | exact HB.out | apply below_alloc | apply pw_below_drewN | apply below_drew1 | refine below_set ?_ GE555.out) | exact HB.out)⟩⟩
     rw [if_neg c20] at H
     have c20b0 : ((bt a0 x10_2) == 92) = false := beq_eq_false_iff_ne.mpr c20
     have c20b1 : ((bt a0 x10_2) != 92) = true := bne_iff_ne.mpr c20
     have HC21 := Aside0.mk H
     clear H
     have p19 : 0 ≤ (x10_2 : Int) := of_decide_eq_true (by first | (with_reducible assumption) | assumption)
     have q19 : x10_2 < (a0.size : Int) := of_decide_eq_true (by first | (with_reducible assumption) | assumption)
     have hx19 := bt_at a0 x10_2
     replace p19 := eq_true p19
     replace q19 := eq_true q19
     go_upto_region 12 with (fail)
     repeat (go_quiet (fail); go_upto_region 12 with (fail))
     go_cut [53] (fun v53 wc => ∃ (kq : Nat) (x53_20 : Bool), v53 = .bool x53_20 ∧ Aside0 (posthouselaw6_PatternsPiecesFit.j2 kq a0 a1 t550 x8_2 x9_2 x10_2 1 x53_20 = some r) ∧ Aside0 (kq ≤ k2) ∧ Aside0 (Kd.R Kd.string 9 wc w.heap.size (fun _ => True) v551 t550) ∧ Aside0 (wc.heap[gb555]? = some (.cells #[.int .i64 t553, .int .i64 t554] 27 (0, 0))) ∧ Aside0 (Below w.heap.size w wc))
     case first =>
      have H := HC21.out
      clear HC21
      by_cases c23 : (bt a0 x10_2) = 42
      ·
       rw [if_pos c23] at H
       have c23b0 : ((bt a0 x10_2) == 42) = true := beq_iff_eq.mpr c23
       have c23b1 : ((bt a0 x10_2) != 42) = false := bne_eq_false_iff_eq.mpr c23
       clear c23
       (first | rw [c23b0] | (simp only [i64_w, i32_w]; rw [c23b0]) | skip)
       have H' := Aside0.mk H
       clear H
       have p22 : 0 ≤ (x10_2 : Int) := of_decide_eq_true (by first | (with_reducible assumption) | assumption)
       have q22 : x10_2 < (a0.size : Int) := of_decide_eq_true (by first | (with_reducible assumption) | assumption)
       have hx22 := bt_at a0 x10_2
       replace p22 := eq_true p22
       replace q22 := eq_true q22
       go_wp2
       repeat (go_quiet (fail); try go_wp2)
       go_meet
       case rel => exact ⟨_, (true), (by first | rfl | (simp; done) | (simp [*]; done)), H', ⟨by have := HJ3.out; have := HK2.out; first | omega | exact Nat.le_refl _⟩, ⟨by (with_reducible repeat (first | apply Kd.R_alloc | apply Kd.R_drewN | apply Kd.R_drew)); exact HO_6.out⟩, ⟨by (with_reducible repeat (first | refine blk_drewN ?_ _ | refine blk_drew ?_ | refine blk_alloc ?_ _)); exact BK555.out⟩, ⟨by repeat (first | (with_reducible first | exact HB.out | apply below_alloc | apply pw_below_drewN | apply below_drew1 | refine below_set ?_ GE555.out) | exact HB.out)⟩⟩
      rw [if_neg c23] at H
      have c23b0 : ((bt a0 x10_2) == 42) = false := beq_eq_false_iff_ne.mpr c23
      have c23b1 : ((bt a0 x10_2) != 42) = true := bne_iff_ne.mpr c23
      (first | rw [c23b0] | (simp only [i64_w, i32_w]; rw [c23b0]) | skip)
      have H' := Aside0.mk H
      clear H
      have p22 : 0 ≤ (x10_2 : Int) := of_decide_eq_true (by first | (with_reducible assumption) | assumption)
      have q22 : x10_2 < (a0.size : Int) := of_decide_eq_true (by first | (with_reducible assumption) | assumption)
      have hx22 := bt_at a0 x10_2
      replace p22 := eq_true p22
      replace q22 := eq_true q22
      have p24 : 0 ≤ (x10_2 : Int) := of_decide_eq_true (by first | (with_reducible assumption) | assumption)
      have q24 : x10_2 < (a0.size : Int) := of_decide_eq_true (by first | (with_reducible assumption) | assumption)
      have hx24 := bt_at a0 x10_2
      replace p24 := eq_true p24
      replace q24 := eq_true q24
      go_wp2
      repeat (go_quiet (fail); try go_wp2)
      go_meet
      case rel => exact ⟨_, (((bt a0 x10_2) == 63)), (by first | rfl | (simp; done) | (simp [*]; done)), H', ⟨by have := HJ3.out; have := HK2.out; first | omega | exact Nat.le_refl _⟩, ⟨by (with_reducible repeat (first | apply Kd.R_alloc | apply Kd.R_drewN | apply Kd.R_drew)); exact HO_6.out⟩, ⟨by (with_reducible repeat (first | refine blk_drewN ?_ _ | refine blk_drew ?_ | refine blk_alloc ?_ _)); exact BK555.out⟩, ⟨by repeat (first | (with_reducible first | exact HB.out | apply below_alloc | apply pw_below_drewN | apply below_drew1 | refine below_set ?_ GE555.out) | exact HB.out)⟩⟩
     case rest =>
      clear HC21
      (try clear c1); (try clear p1); (try clear q1); (try clear hx1); (try clear c2); (try clear p2); (try clear q2); (try clear hx2); (try clear p6); (try clear c8); (try clear c8b0); (try clear c8b1); (try clear c9); (try clear c11); (try clear c12); (try clear c12b0); (try clear c12b1); (try clear c12b2); (try clear c17); (try clear c17b0); (try clear c18); (try clear c18b0); (try clear p19); (try clear q19); (try clear hx19); (try clear c20); (try clear c20b0); (try clear c20b1); (try clear p22); (try clear q22); (try clear hx22); (try clear c23); (try clear c23b0); (try clear c23b1); (try clear p24)
      (try clear q24); (try clear hx24); (try clear hcz10_0); (try clear hcz10_1); (try clear hcz7_0); (try clear hcz7_1); (try clear hcz9_0); (try clear hcz9_1); (try clear hfz10_0); (try clear hfz10_1); (try clear hfz7_0); (try clear hfz7_1); (try clear hfz9_0); (try clear hfz9_1); (try clear p19); (try clear p2); (try clear p22); (try clear p24); (try clear q19); (try clear q22); (try clear q24)
      obtain ⟨kq, x53_20, rfl, HA, HJ20, HO_6, BK555, HB⟩ := hcut
      cases kq with
      | zero => exact absurd HA.out (by simp [posthouselaw6_PatternsPiecesFit.j2])
      | succ kj20 =>
       have H := HA.out
       clear HA
       simp only [posthouselaw6_PatternsPiecesFit.j2] at H
       by_cases c25 : x53_20 = true
       rotate_left
       ·
        replace c25 := Bool.eq_false_iff.mpr c25
        subst c25
        have H1 : (posthouselaw6_PatternsPiecesFit.l0 kj20 a0 a1 t550 x8_2 (wrap64 (x9_2 + 1)) (wrap64 (x10_2 + 1))) = some r := by rw [if_neg (show ¬ (false = true) by decide)] at H; exact H
        clear H
        have H := H1
        clear H1
        have H' := Aside0.mk H
        clear H
        go_wp2
        repeat (go_quiet (fail); try go_wp2)
        go_roundg kj20
        case measure => have := HJ3.out; have := HK2.out; have := HJ20.out; omega
        case rel => exact ⟨(x8_2), (wrap64 (x9_2 + 1)), (wrap64 (x10_2 + 1)), (by first | rfl | (simp; done) | (simp [*]; done)), (by first | rfl | (simp; done) | (simp [*]; done)), (by first | rfl | (simp; done) | (simp [*]; done)), H', ⟨by have := HJ3.out; have := HK2.out; have := HJ20.out; omega⟩, ⟨by (with_reducible repeat (first | apply Kd.R_alloc | apply Kd.R_drewN | apply Kd.R_drew)); exact HO_6.out⟩, ⟨by (with_reducible repeat (first | refine blk_drewN ?_ _ | refine blk_drew ?_ | refine blk_alloc ?_ _)); exact BK555.out⟩, ⟨by repeat (first | (with_reducible first | exact HB.out | apply below_alloc | apply pw_below_drewN | apply below_drew1 | refine below_set ?_ GE555.out) | exact HB.out)⟩⟩
       subst c25
       have H1 : (if x8_2 ≥ (t550.length : Int) then (posthouselaw6_PatternsPiecesFit.j3 kj20 a0 a1 t550 x8_2 x9_2 x10_2 true) else (if 0 ≤ x10_2 then (if x10_2 < (a0.size : Int) then (if (bt a0 x10_2) = 63 then (if 0 ≤ x8_2 then (if x8_2 < (t550.length : Int) then (posthouselaw6_PatternsPiecesFit.j3 kj20 a0 a1 t550 x8_2 x9_2 x10_2 (((rdOf ByteArray.empty t550 x8_2).size : Int) != 1)) else (none)) else (none)) else (posthouselaw6_PatternsPiecesFit.j3 kj20 a0 a1 t550 x8_2 x9_2 x10_2 false)) else (none)) else (none))) = some r := by rw [if_pos rfl] at H; exact H
       clear H
       have H := H1
       clear H1
       have HC26 := Aside0.mk H
       clear H
       go_upto_region 13 with (fail)
       repeat (go_quiet (fail); go_upto_region 13 with (fail))
       go_cut [71] (fun v71 wc => ∃ (kq : Nat) (x71_25 : Bool), v71 = .bool x71_25 ∧ Aside0 (posthouselaw6_PatternsPiecesFit.j3 kq a0 a1 t550 x8_2 x9_2 x10_2 x71_25 = some r) ∧ Aside0 (kq ≤ kj20) ∧ Aside0 (Kd.R Kd.string 9 wc w.heap.size (fun _ => True) v551 t550) ∧ Aside0 (wc.heap[gb555]? = some (.cells #[.int .i64 t553, .int .i64 t554] 27 (0, 0))) ∧ Aside0 (Below w.heap.size w wc))
       case first =>
        have H := HC26.out
        clear HC26
        by_cases c27 : x8_2 ≥ (t550.length : Int)
        ·
         rw [if_pos c27] at H
         have c27b0 : decide ((t550.length : Int) ≤ x8_2) = true := decide_eq_true c27
         clear c27
         (first | rw [c27b0] | (simp only [i64_w, i32_w]; rw [c27b0]) | skip)
         have H' := Aside0.mk H
         clear H
         obtain ⟨Ao28, co28, eo28⟩ := Kd.R_slice HO_6.out
         subst eo28
         go_wp2
         repeat (go_quiet (fail); try go_wp2)
         go_meet
         case rel => exact ⟨_, (true), (by first | rfl | (simp; done) | (simp [*]; done)), H', ⟨by have := HJ3.out; have := HK2.out; have := HJ20.out; first | omega | exact Nat.le_refl _⟩, ⟨by (with_reducible repeat (first | apply Kd.R_alloc | apply Kd.R_drewN | apply Kd.R_drew)); exact HO_6.out⟩, ⟨by (with_reducible repeat (first | refine blk_drewN ?_ _ | refine blk_drew ?_ | refine blk_alloc ?_ _)); exact BK555.out⟩, ⟨by repeat (first | (with_reducible first | exact HB.out | apply below_alloc | apply pw_below_drewN | apply below_drew1 | refine below_set ?_ GE555.out) | exact HB.out)⟩⟩
        rw [if_neg c27] at H
        have c27b0 : decide ((t550.length : Int) ≤ x8_2) = false := decide_eq_false c27
        clear c27
        (first | rw [c27b0] | (simp only [i64_w, i32_w]; rw [c27b0]) | skip)
        by_cases c29 : 0 ≤ x10_2
        rotate_left
        ·
         rw [if_neg c29] at H
         exact absurd H (by simp)
        rw [if_pos c29] at H
        have c29b0 : decide (0 ≤ x10_2) = true := decide_eq_true c29
        clear c29
        by_cases c30 : x10_2 < (a0.size : Int)
        rotate_left
        ·
         rw [if_neg c30] at H
         exact absurd H (by simp)
        rw [if_pos c30] at H
        have c30b0 : decide (x10_2 < (a0.size : Int)) = true := decide_eq_true c30
        clear c30
        by_cases c32 : (bt a0 x10_2) = 63
        rotate_left
        ·
         rw [if_neg c32] at H
         have c32b0 : ((bt a0 x10_2) == 63) = false := beq_eq_false_iff_ne.mpr c32
         have c32b1 : ((bt a0 x10_2) != 63) = true := bne_iff_ne.mpr c32
         have H' := Aside0.mk H
         clear H
         obtain ⟨Ao36, co36, eo36⟩ := Kd.R_slice HO_6.out
         subst eo36
         have p31 : 0 ≤ (x10_2 : Int) := of_decide_eq_true (by first | (with_reducible assumption) | assumption)
         have q31 : x10_2 < (a0.size : Int) := of_decide_eq_true (by first | (with_reducible assumption) | assumption)
         have hx31 := bt_at a0 x10_2
         replace p31 := eq_true p31
         replace q31 := eq_true q31
         go_wp2
         repeat (go_quiet (fail); try go_wp2)
         go_meet
         case rel => exact ⟨_, (false), (by first | rfl | (simp; done) | (simp [*]; done)), H', ⟨by have := HJ3.out; have := HK2.out; have := HJ20.out; first | omega | exact Nat.le_refl _⟩, ⟨by (with_reducible repeat (first | apply Kd.R_alloc | apply Kd.R_drewN | apply Kd.R_drew)); exact HO_6.out⟩, ⟨by (with_reducible repeat (first | refine blk_drewN ?_ _ | refine blk_drew ?_ | refine blk_alloc ?_ _)); exact BK555.out⟩, ⟨by repeat (first | (with_reducible first | exact HB.out | apply below_alloc | apply pw_below_drewN | apply below_drew1 | refine below_set ?_ GE555.out) | exact HB.out)⟩⟩
        rw [if_pos c32] at H
        have c32b0 : ((bt a0 x10_2) == 63) = true := beq_iff_eq.mpr c32
        have c32b1 : ((bt a0 x10_2) != 63) = false := bne_eq_false_iff_eq.mpr c32
        clear c32
        by_cases c33 : 0 ≤ x8_2
        rotate_left
        ·
         rw [if_neg c33] at H
         exact absurd H (by simp)
        rw [if_pos c33] at H
        have c33b0 : decide (0 ≤ x8_2) = true := decide_eq_true c33
        clear c33
        by_cases c34 : x8_2 < (t550.length : Int)
        rotate_left
        ·
         rw [if_neg c34] at H
         exact absurd H (by simp)
        rw [if_pos c34] at H
        have c34b0 : decide (x8_2 < (t550.length : Int)) = true := decide_eq_true c34
        clear c34
        have H' := Aside0.mk H
        clear H
        obtain ⟨Ao35, co35, eo35⟩ := Kd.R_slice HO_6.out
        subst eo35
        have p31 : 0 ≤ (x10_2 : Int) := of_decide_eq_true (by first | (with_reducible assumption) | assumption)
        have q31 : x10_2 < (a0.size : Int) := of_decide_eq_true (by first | (with_reducible assumption) | assumption)
        have hx31 := bt_at a0 x10_2
        replace p31 := eq_true p31
        replace q31 := eq_true q31
        have p558 : 0 ≤ (x8_2 : Int) := of_decide_eq_true (by first | (with_reducible assumption) | assumption)
        have q558 : x8_2 < (t550.length : Int) := of_decide_eq_true (by first | (with_reducible assumption) | assumption)
        obtain ⟨ad558, e558, hx558_0⟩ := Kd.at_string (Kd.R_reads' HO_6.out).2.2 x8_2 p558 q558
        cases e558
        replace p558 := eq_true p558
        replace q558 := eq_true q558
        go_wp2
        repeat (go_quiet (fail); try go_wp2)
        go_meet
        case rel => exact ⟨_, ((((rdOf ByteArray.empty t550 x8_2).size : Int) != 1)), (by first | rfl | (simp; done) | (simp [*]; done)), H', ⟨by have := HJ3.out; have := HK2.out; have := HJ20.out; first | omega | exact Nat.le_refl _⟩, ⟨by (with_reducible repeat (first | apply Kd.R_alloc | apply Kd.R_drewN | apply Kd.R_drew)); exact HO_6.out⟩, ⟨by (with_reducible repeat (first | refine blk_drewN ?_ _ | refine blk_drew ?_ | refine blk_alloc ?_ _)); exact BK555.out⟩, ⟨by repeat (first | (with_reducible first | exact HB.out | apply below_alloc | apply pw_below_drewN | apply below_drew1 | refine below_set ?_ GE555.out) | exact HB.out)⟩⟩
       case rest =>
        clear HC26
        (try clear c1); (try clear p1); (try clear q1); (try clear hx1); (try clear c2); (try clear p2); (try clear q2); (try clear hx2); (try clear c3); (try clear p3); (try clear q3); (try clear hx3); (try clear p5); (try clear q5); (try clear hx5); (try clear p6); (try clear c8); (try clear c8b0); (try clear c8b1); (try clear c9); (try clear c11); (try clear c12); (try clear c12b0); (try clear c12b1); (try clear c12b2); (try clear c17); (try clear c17b0); (try clear c18); (try clear c18b0); (try clear p19); (try clear q19); (try clear hx19); (try clear c20); (try clear c20b0); (try clear c20b1)
        (try clear p22); (try clear q22); (try clear hx22); (try clear c23); (try clear c23b0); (try clear c23b1); (try clear p24); (try clear q24); (try clear hx24); (try clear c25); (try clear c27); (try clear c27b0); (try clear c29); (try clear c29b0); (try clear c30); (try clear c30b0); (try clear p31); (try clear q31); (try clear hx31); (try clear c32); (try clear c32b0); (try clear c32b1); (try clear c33); (try clear c33b0); (try clear c34); (try clear c34b0); (try clear hcz10_0); (try clear hcz10_1); (try clear hcz7_0); (try clear hcz7_1); (try clear hcz9_0); (try clear hcz9_1); (try clear hfz10_0)
        (try clear hfz10_1); (try clear hfz7_0); (try clear hfz7_1); (try clear hfz9_0); (try clear hfz9_1); (try clear hx558_0); (try clear p1); (try clear p19); (try clear p2); (try clear p22); (try clear p24); (try clear p31); (try clear p558); (try clear p6); (try clear q1); (try clear q19); (try clear q2); (try clear q22); (try clear q24); (try clear q31); (try clear q558)
        obtain ⟨kq, x71_25, rfl, HA, HJ25, HO_6, BK555, HB⟩ := hcut
        cases kq with
        | zero => exact absurd HA.out (by simp [posthouselaw6_PatternsPiecesFit.j3])
        | succ kj25 =>
         have H := HA.out
         clear HA
         simp only [posthouselaw6_PatternsPiecesFit.j3] at H
         by_cases c37 : x71_25 = true
         ·
          subst c37
          have H1 : (some false) = some r := by rw [if_pos rfl] at H; exact H
          clear H
          have H := H1
          clear H1
          obtain rfl := Option.some.inj H
          go_wp2
          repeat (go_quiet (fail); try go_wp2)
          go_ret
          exact ⟨by first | rfl | (simp [errW_none, errW_some] <;> rfl) | (simp [*, errW_none, errW_some] <;> rfl), by repeat (first | (with_reducible first | exact HB.out | apply below_alloc | apply pw_below_drewN | apply below_drew1 | refine below_set ?_ GE555.out) | exact HB.out)⟩
         replace c37 := Bool.eq_false_iff.mpr c37
         subst c37
         have H1 : (if 0 ≤ x8_2 then (if x8_2 < (t550.length : Int) then (if (wrap64 (x9_2 + ((rdOf ByteArray.empty t550 x8_2).size : Int))) > (a1.size : Int) then (some false) else (if 0 ≤ x9_2 then (if x9_2 ≤ (wrap64 (x9_2 + ((rdOf ByteArray.empty t550 x8_2).size : Int))) then (if (wrap64 (x9_2 + ((rdOf ByteArray.empty t550 x8_2).size : Int))) ≤ (a1.size : Int) then (if (a1.extract (x9_2 : Int).toNat ((wrap64 (x9_2 + ((rdOf ByteArray.empty t550 x8_2).size : Int))) : Int).toNat).toList = (rdOf ByteArray.empty t550 x8_2).toList then (posthouselaw6_PatternsPiecesFit.l0 kj25 a0 a1 t550 (wrap64 (x8_2 + 1)) (wrap64 (x9_2 + ((rdOf ByteArray.empty t550 x8_2).size : Int))) (wrap64 (x10_2 + 1))) else (some false)) else (none)) else (none)) else (none))) else (none)) else (none)) = some r := by rw [if_neg (show ¬ (false = true) by decide)] at H; exact H
         clear H
         have H := H1
         clear H1
         by_cases c38 : 0 ≤ x8_2
         rotate_left
         ·
          rw [if_neg c38] at H
          exact absurd H (by simp)
         rw [if_pos c38] at H
         have c38b0 : decide (0 ≤ x8_2) = true := decide_eq_true c38
         clear c38
         by_cases c39 : x8_2 < (t550.length : Int)
         rotate_left
         ·
          rw [if_neg c39] at H
          exact absurd H (by simp)
         rw [if_pos c39] at H
         have c39b0 : decide (x8_2 < (t550.length : Int)) = true := decide_eq_true c39
         clear c39
         by_cases c40 : (wrap64 (x9_2 + ((rdOf ByteArray.empty t550 x8_2).size : Int))) > (a1.size : Int)
         ·
          rw [if_pos c40] at H
          have c40b0 : decide ((a1.size : Int) < (wrap64 (x9_2 + ((rdOf ByteArray.empty t550 x8_2).size : Int)))) = true := decide_eq_true c40
          clear c40
          obtain rfl := Option.some.inj H
          obtain ⟨Ao41, co41, eo41⟩ := Kd.R_slice HO_6.out
          subst eo41
          have p559 : 0 ≤ (x8_2 : Int) := of_decide_eq_true (by first | (with_reducible assumption) | assumption)
          have q559 : x8_2 < (t550.length : Int) := of_decide_eq_true (by first | (with_reducible assumption) | assumption)
          obtain ⟨ad559, e559, hx559_0⟩ := Kd.at_string (Kd.R_reads' HO_6.out).2.2 x8_2 p559 q559
          cases e559
          replace p559 := eq_true p559
          replace q559 := eq_true q559
          go_wp2
          repeat (go_quiet (fail); try go_wp2)
          go_ret
          exact ⟨by first | rfl | (simp [errW_none, errW_some] <;> rfl) | (simp [*, errW_none, errW_some] <;> rfl), by repeat (first | (with_reducible first | exact HB.out | apply below_alloc | apply pw_below_drewN | apply below_drew1 | refine below_set ?_ GE555.out) | exact HB.out)⟩
         rw [if_neg c40] at H
         have c40b0 : decide ((a1.size : Int) < (wrap64 (x9_2 + ((rdOf ByteArray.empty t550 x8_2).size : Int)))) = false := decide_eq_false c40
         clear c40
         by_cases c42 : 0 ≤ x9_2
         rotate_left
         ·
          rw [if_neg c42] at H
          exact absurd H (by simp)
         rw [if_pos c42] at H
         have c42b0 := eq_true c42
         have c42b1 : decide (0 ≤ x9_2) = true := decide_eq_true c42
         clear c42
         by_cases c43 : x9_2 ≤ (wrap64 (x9_2 + ((rdOf ByteArray.empty t550 x8_2).size : Int)))
         rotate_left
         ·
          rw [if_neg c43] at H
          exact absurd H (by simp)
         rw [if_pos c43] at H
         have c43b0 := eq_true c43
         have c43b1 : decide (x9_2 ≤ (wrap64 (x9_2 + ((rdOf ByteArray.empty t550 x8_2).size : Int)))) = true := decide_eq_true c43
         by_cases c44 : (wrap64 (x9_2 + ((rdOf ByteArray.empty t550 x8_2).size : Int))) ≤ (a1.size : Int)
         rotate_left
         ·
          rw [if_neg c44] at H
          exact absurd H (by simp)
         rw [if_pos c44] at H
         have c44b0 := eq_true c44
         have c44b1 : decide ((wrap64 (x9_2 + ((rdOf ByteArray.empty t550 x8_2).size : Int))) ≤ (a1.size : Int)) = true := decide_eq_true c44
         by_cases c45 : (a1.extract (x9_2 : Int).toNat ((wrap64 (x9_2 + ((rdOf ByteArray.empty t550 x8_2).size : Int))) : Int).toNat).toList = (rdOf ByteArray.empty t550 x8_2).toList
         rotate_left
         ·
          rw [if_neg c45] at H
          have c45b0 : ((a1.extract (x9_2 : Int).toNat ((wrap64 (x9_2 + ((rdOf ByteArray.empty t550 x8_2).size : Int))) : Int).toNat).toList == (rdOf ByteArray.empty t550 x8_2).toList) = false := beq_eq_false_iff_ne.mpr c45
          have c45b1 : ((a1.extract (x9_2 : Int).toNat ((wrap64 (x9_2 + ((rdOf ByteArray.empty t550 x8_2).size : Int))) : Int).toNat).toList != (rdOf ByteArray.empty t550 x8_2).toList) = true := bne_iff_ne.mpr c45
          obtain rfl := Option.some.inj H
          obtain ⟨Ao47, co47, eo47⟩ := Kd.R_slice HO_6.out
          subst eo47
          have p559 : 0 ≤ (x8_2 : Int) := of_decide_eq_true (by first | (with_reducible assumption) | assumption)
          have q559 : x8_2 < (t550.length : Int) := of_decide_eq_true (by first | (with_reducible assumption) | assumption)
          obtain ⟨ad559, e559, hx559_0⟩ := Kd.at_string (Kd.R_reads' HO_6.out).2.2 x8_2 p559 q559
          cases e559
          replace p559 := eq_true p559
          replace q559 := eq_true q559
          have p560 : 0 ≤ (x8_2 : Int) := of_decide_eq_true (by first | (with_reducible assumption) | assumption)
          have q560 : x8_2 < (t550.length : Int) := of_decide_eq_true (by first | (with_reducible assumption) | assumption)
          obtain ⟨ad560, e560, hx560_0⟩ := Kd.at_string (Kd.R_reads' HO_6.out).2.2 x8_2 p560 q560
          obtain rfl : ad559 = ad560 := (by injection e560)
          replace p560 := eq_true p560
          replace q560 := eq_true q560
          go_wp2
          repeat (go_quiet (fail); try go_wp2)
          go_ret
          exact ⟨by first | rfl | (simp [errW_none, errW_some] <;> rfl) | (simp [*, errW_none, errW_some] <;> rfl), by repeat (first | (with_reducible first | exact HB.out | apply below_alloc | apply pw_below_drewN | apply below_drew1 | refine below_set ?_ GE555.out) | exact HB.out)⟩
         rw [if_pos c45] at H
         have c45b0 : ((a1.extract (x9_2 : Int).toNat ((wrap64 (x9_2 + ((rdOf ByteArray.empty t550 x8_2).size : Int))) : Int).toNat).toList == (rdOf ByteArray.empty t550 x8_2).toList) = true := beq_iff_eq.mpr c45
         have c45b1 : ((a1.extract (x9_2 : Int).toNat ((wrap64 (x9_2 + ((rdOf ByteArray.empty t550 x8_2).size : Int))) : Int).toNat).toList != (rdOf ByteArray.empty t550 x8_2).toList) = false := bne_eq_false_iff_eq.mpr c45
         clear c45
         have H' := Aside0.mk H
         clear H
         obtain ⟨Ao46, co46, eo46⟩ := Kd.R_slice HO_6.out
         subst eo46
         have p559 : 0 ≤ (x8_2 : Int) := of_decide_eq_true (by first | (with_reducible assumption) | assumption)
         have q559 : x8_2 < (t550.length : Int) := of_decide_eq_true (by first | (with_reducible assumption) | assumption)
         obtain ⟨ad559, e559, hx559_0⟩ := Kd.at_string (Kd.R_reads' HO_6.out).2.2 x8_2 p559 q559
         cases e559
         replace p559 := eq_true p559
         replace q559 := eq_true q559
         have p560 : 0 ≤ (x8_2 : Int) := of_decide_eq_true (by first | (with_reducible assumption) | assumption)
         have q560 : x8_2 < (t550.length : Int) := of_decide_eq_true (by first | (with_reducible assumption) | assumption)
         obtain ⟨ad560, e560, hx560_0⟩ := Kd.at_string (Kd.R_reads' HO_6.out).2.2 x8_2 p560 q560
         obtain rfl : ad559 = ad560 := (by injection e560)
         replace p560 := eq_true p560
         replace q560 := eq_true q560
         go_wp2
         repeat (go_quiet (fail); try go_wp2)
         go_roundg kj25
         case measure => have := HJ3.out; have := HK2.out; have := HJ20.out; have := HJ25.out; omega
         case rel => exact ⟨(wrap64 (x8_2 + 1)), (wrap64 (x9_2 + ((rdOf ByteArray.empty t550 x8_2).size : Int))), (wrap64 (x10_2 + 1)), (by first | rfl | (simp; done) | (simp [*]; done)), (by first | rfl | (simp; done) | (simp [*]; done)), (by first | rfl | (simp; done) | (simp [*]; done)), H', ⟨by have := HJ3.out; have := HK2.out; have := HJ20.out; have := HJ25.out; omega⟩, ⟨by (with_reducible repeat (first | apply Kd.R_alloc | apply Kd.R_drewN | apply Kd.R_drew)); exact HO_6.out⟩, ⟨by (with_reducible repeat (first | refine blk_drewN ?_ _ | refine blk_drew ?_ | refine blk_alloc ?_ _)); exact BK555.out⟩, ⟨by repeat (first | (with_reducible first | exact HB.out | apply below_alloc | apply pw_below_drewN | apply below_drew1 | refine below_set ?_ GE555.out) | exact HB.out)⟩⟩

/-- THE ONE PURE STATEMENT of posthouselaw6_PatternsPiecesFit: yours. -/
def posthouselaw6_PatternsPiecesFit.Pure : Prop := ∀ (a0 : ByteArray) (a1 : ByteArray), a0.size ≤ 140737488351232 → a1.size ≤ 140737488351232 → ∃ k, posthouselaw6_PatternsPiecesFit.f k a0 a1 = some true
theorem posthouselaw6_PatternsPiecesFit.walk (P : posthouselaw6_PatternsPiecesFit.Pure) (a0 : ByteArray) (a1 : ByteArray) (w : World) (w0 : a0.size ≤ 140737488351232) (w1 : a1.size ≤ 140737488351232) :
  Calls Try.prog 9 #[.string a0, .string a1] w fun e w' => e = .returned (.bool true) ∧ Below w.heap.size w w' := by
 obtain ⟨k, h⟩ := P a0 a1 w0 w1
 refine (posthouselaw6_PatternsPiecesFit.calls k a0 a1 true w h).mono ?_
 rintro e w' ⟨rfl, hd⟩
 exact ⟨rfl, hd⟩

end Go.Proofs.Ytdnacfnmaieeiaa.Print
