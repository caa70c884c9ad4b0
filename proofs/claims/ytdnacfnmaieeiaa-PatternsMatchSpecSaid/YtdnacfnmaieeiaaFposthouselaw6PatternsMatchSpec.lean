-- Written for this claim by a program of this session, by way of the kit's print: functions as plain Lean, and their calls' contracts.
import Derived.Test.YtdnacfnmaieeiaaKinds
import Derived.Test.YtdnacfnmaieeiaaEq27
import Derived.Test.YtdnacfnmaieeiaaFposthouseref5At
import Derived.Test.YtdnacfnmaieeiaaFposthouseref5SameTexts
import Derived.Test.YtdnacfnmaieeiaaFpatternsMatch
import Derived.Test.YtdnacfnmaieeiaaFposthouseref6PatternFault
import Derived.Test.YtdnacfnmaieeiaaFposthouselaw6matched
import Derived.Test.YtdnacfnmaieeiaaFposthouseref6Matched
namespace Go.Proofs.Ytdnacfnmaieeiaa.Print
open Go.RowKit Go.Proofs.YtdnacfnmaieeiaaW.PrintWords Go.Proofs.YtdnacfnmaieeiaaW.PrintLast Go.Proofs.YtdnacfnmaieeiaaW.PrintMore
attribute [local go_sem] max2_int min2_int max_two min_two max_three min_three max_four min_four   -- for this text's walks alone
set_option linter.unusedVariables false
set_option linter.unusedSimpArgs false

attribute [local go_sem high] eqA27
/-! ### posthouselaw6_PatternsMatchSpec: function 6 -/
mutual
def posthouselaw6_PatternsMatchSpec.j0 : Nat → Int → ByteArray → ByteArray → Bool → List ByteArray → Bool → Int → Int → Int → Int → Option (Bool)
 | 0, _, _, _, _, _, _, _, _, _, _ => none
 | k + 1, x0, x1, x2, x7, x8, x31, x490000, x490001, x493000, x493001 => if x31 = true then ((posthouseref5_At.f 1 (-1)).bind fun bt493 => (posthouselaw6_PatternsMatchSpec.j1 k x0 x1 x2 x7 x8 x490000 x490001 bt493.1 bt493.2)) else (posthouselaw6_PatternsMatchSpec.j1 k x0 x1 x2 x7 x8 x490000 x490001 x493000 x493001)
def posthouselaw6_PatternsMatchSpec.j1 : Nat → Int → ByteArray → ByteArray → Bool → List ByteArray → Int → Int → Int → Int → Option (Bool)
 | 0, _, _, _, _, _, _, _, _, _ => none
 | k + 1, x0, x1, x2, x7, x8, x490000, x490001, x493000, x493001 => if x493000 = 0 then ((posthouseref6_Matched.f k x0 x1 x2).bind fun bt495 => (if x490000 = 0 then (if (x7 == bt495.1) = true then ((posthouseref5_SameTexts.f k x8 bt495.2).bind fun t499 => (if t499 = true then ((posthouselaw6_matched.f k).bind fun t500 => (some t500)) else (some false))) else (some false)) else (some false))) else (if (x490000 == x493000 && (x490001 == x493001)) = true then (if x7 = true then (some false) else (if (x8.length : Int) = 0 then ((posthouselaw6_matched.f k).bind fun t501 => (some t501)) else (some false))) else (some false))
end
def posthouselaw6_PatternsMatchSpec.f (k : Nat) (a0 : Int) (a1 : ByteArray) (a2 : ByteArray) : Option (Bool) := (patterns_Match.f k a0 a1 a2).bind fun bt483 => ((posthouseref6_PatternFault.f k a0 a1).bind fun bt490 => (if bt490.1 = 0 then (posthouselaw6_PatternsMatchSpec.j0 k a0 a1 a2 bt483.1 bt483.2.1 (decide ((a2.size : Int) > 4000)) bt483.2.2.1 bt483.2.2.2 bt490.1 bt490.2) else (posthouselaw6_PatternsMatchSpec.j0 k a0 a1 a2 bt483.1 bt483.2.1 false bt483.2.2.1 bt483.2.2.2 bt490.1 bt490.2)))
theorem posthouselaw6_PatternsMatchSpec.mono_l : ∀ k, (∀ y0 y1 y2 y3 y4 y5 y6 y7 y8 y9, LeO (posthouselaw6_PatternsMatchSpec.j0 k y0 y1 y2 y3 y4 y5 y6 y7 y8 y9) (posthouselaw6_PatternsMatchSpec.j0 (k + 1) y0 y1 y2 y3 y4 y5 y6 y7 y8 y9)) ∧ (∀ y0 y1 y2 y3 y4 y5 y6 y7 y8, LeO (posthouselaw6_PatternsMatchSpec.j1 k y0 y1 y2 y3 y4 y5 y6 y7 y8) (posthouselaw6_PatternsMatchSpec.j1 (k + 1) y0 y1 y2 y3 y4 y5 y6 y7 y8))
 | 0 => ⟨fun _ _ _ _ _ _ _ _ _ _ r h => by simp [posthouselaw6_PatternsMatchSpec.j0] at h, fun _ _ _ _ _ _ _ _ _ r h => by simp [posthouselaw6_PatternsMatchSpec.j1] at h⟩
 | k + 1 => by
  obtain ⟨ih0, ih1⟩ := posthouselaw6_PatternsMatchSpec.mono_l k
  refine ⟨?_, ?_⟩
  ·
   intro y0 y1 y2 y3 y4 y5 y6 y7 y8 y9
   unfold posthouselaw6_PatternsMatchSpec.j0
   repeat' first
   | (with_reducible exact ih0 _ _ _ _ _ _ _ _ _ _)
   | (with_reducible exact ih1 _ _ _ _ _ _ _ _ _)
   | (with_reducible exact patterns_Match.mono _ _ _ _)
   | (with_reducible exact posthouselaw6_matched.mono _)
   | (with_reducible exact posthouseref5_SameTexts.mono _ _ _)
   | (with_reducible exact posthouseref6_Matched.mono _ _ _ _)
   | (with_reducible exact posthouseref6_PatternFault.mono _ _ _)
   | (with_reducible exact LeO.refl _)
   | (with_reducible exact LeO.none _)
   | (with_reducible refine LeO.ite ?_ ?_)
   | (with_reducible refine LeO.bind ?_ (fun _ => ?_))
   | exact ih0 _ _ _ _ _ _ _ _ _ _
   | exact ih1 _ _ _ _ _ _ _ _ _
   | exact patterns_Match.mono _ _ _ _
   | exact posthouselaw6_matched.mono _
   | exact posthouseref5_SameTexts.mono _ _ _
   | exact posthouseref6_Matched.mono _ _ _ _
   | exact posthouseref6_PatternFault.mono _ _ _
   | exact LeO.none _
   | refine LeO.ite ?_ ?_
   | refine LeO.bind ?_ (fun _ => ?_)
  ·
   intro y0 y1 y2 y3 y4 y5 y6 y7 y8
   unfold posthouselaw6_PatternsMatchSpec.j1
   repeat' first
   | (with_reducible exact ih0 _ _ _ _ _ _ _ _ _ _)
   | (with_reducible exact ih1 _ _ _ _ _ _ _ _ _)
   | (with_reducible exact patterns_Match.mono _ _ _ _)
   | (with_reducible exact posthouselaw6_matched.mono _)
   | (with_reducible exact posthouseref5_SameTexts.mono _ _ _)
   | (with_reducible exact posthouseref6_Matched.mono _ _ _ _)
   | (with_reducible exact posthouseref6_PatternFault.mono _ _ _)
   | (with_reducible exact LeO.refl _)
   | (with_reducible exact LeO.none _)
   | (with_reducible refine LeO.ite ?_ ?_)
   | (with_reducible refine LeO.bind ?_ (fun _ => ?_))
   | exact ih0 _ _ _ _ _ _ _ _ _ _
   | exact ih1 _ _ _ _ _ _ _ _ _
   | exact patterns_Match.mono _ _ _ _
   | exact posthouselaw6_matched.mono _
   | exact posthouseref5_SameTexts.mono _ _ _
   | exact posthouseref6_Matched.mono _ _ _ _
   | exact posthouseref6_PatternFault.mono _ _ _
   | exact LeO.none _
   | refine LeO.ite ?_ ?_
   | refine LeO.bind ?_ (fun _ => ?_)
theorem posthouselaw6_PatternsMatchSpec.mono : ∀ a0 a1 a2 k, LeO (posthouselaw6_PatternsMatchSpec.f k a0 a1 a2) (posthouselaw6_PatternsMatchSpec.f (k + 1) a0 a1 a2) := by
 intro a0 a1 a2 k
 obtain ⟨ih0, ih1⟩ := posthouselaw6_PatternsMatchSpec.mono_l k
 unfold posthouselaw6_PatternsMatchSpec.f
 repeat' first
   | (with_reducible exact ih0 _ _ _ _ _ _ _ _ _ _)
   | (with_reducible exact ih1 _ _ _ _ _ _ _ _ _)
   | (with_reducible exact patterns_Match.mono _ _ _ _)
   | (with_reducible exact posthouselaw6_matched.mono _)
   | (with_reducible exact posthouseref5_SameTexts.mono _ _ _)
   | (with_reducible exact posthouseref6_Matched.mono _ _ _ _)
   | (with_reducible exact posthouseref6_PatternFault.mono _ _ _)
   | (with_reducible exact LeO.refl _)
   | (with_reducible exact LeO.none _)
   | (with_reducible refine LeO.ite ?_ ?_)
   | (with_reducible refine LeO.bind ?_ (fun _ => ?_))
   | exact ih0 _ _ _ _ _ _ _ _ _ _
   | exact ih1 _ _ _ _ _ _ _ _ _
   | exact patterns_Match.mono _ _ _ _
   | exact posthouselaw6_matched.mono _
   | exact posthouseref5_SameTexts.mono _ _ _
   | exact posthouseref6_Matched.mono _ _ _ _
   | exact posthouseref6_PatternFault.mono _ _ _
   | exact LeO.none _
   | refine LeO.ite ?_ ?_
   | refine LeO.bind ?_ (fun _ => ?_)
set_option maxHeartbeats 8000000 in
set_option maxRecDepth 100000 in
theorem posthouselaw6_PatternsMatchSpec.calls (k : Nat) (a0 : Int) (a1 : ByteArray) (a2 : ByteArray) (r : Bool) (w : World) (h : posthouselaw6_PatternsMatchSpec.f k a0 a1 a2 = some r) :
  Calls Try.prog 6 #[.int .i64 a0, .string a1, .string a2] w fun e w' => e = .returned (.bool r) ∧ Below w.heap.size w w' := by
 have hu27 := Try.underlying27
 have HB := Aside0.mk (Below.refl w.heap.size w)
 have H : ((patterns_Match.f k a0 a1 a2).bind fun bt483 => ((posthouseref6_PatternFault.f k a0 a1).bind fun bt490 => (if bt490.1 = 0 then (posthouselaw6_PatternsMatchSpec.j0 k a0 a1 a2 bt483.1 bt483.2.1 (decide ((a2.size : Int) > 4000)) bt483.2.2.1 bt483.2.2.2 bt490.1 bt490.2) else (posthouselaw6_PatternsMatchSpec.j0 k a0 a1 a2 bt483.1 bt483.2.1 false bt483.2.2.1 bt483.2.2.2 bt490.1 bt490.2)))) = some r := h
 clear h
 replace H := Option.bind_eq_some_iff.mp H
 obtain ⟨⟨t483, t484, t487, t488⟩, A40, H⟩ := H
 replace H : ((posthouseref6_PatternFault.f k a0 a1).bind fun bt490 => (if bt490.1 = 0 then (posthouselaw6_PatternsMatchSpec.j0 k a0 a1 a2 t483 t484 (decide ((a2.size : Int) > 4000)) t487 t488 bt490.1 bt490.2) else (posthouselaw6_PatternsMatchSpec.j0 k a0 a1 a2 t483 t484 false t487 t488 bt490.1 bt490.2))) = some r := H
 have A4 := Aside0.mk A40
 clear A40
 replace H := Option.bind_eq_some_iff.mp H
 obtain ⟨⟨t490, t491⟩, A50, H⟩ := H
 replace H : (if t490 = 0 then (posthouselaw6_PatternsMatchSpec.j0 k a0 a1 a2 t483 t484 (decide ((a2.size : Int) > 4000)) t487 t488 t490 t491) else (posthouselaw6_PatternsMatchSpec.j0 k a0 a1 a2 t483 t484 false t487 t488 t490 t491)) = some r := H
 have A5 := Aside0.mk A50
 clear A50
 have HC6 := Aside0.mk H
 clear H
 go_enter Try.func6, Try.ntmps6
 go_upto_region 3 with (first | ((with_reducible refine gate_callee (f := 15) rfl ?_); refine goesL_ (some 17) rfl rfl Try.func15 (by kernel_rfl) rfl #[.int .i64 a0, .string a1, .string a2] rfl (by (try simp only [List.map_toArray, List.map_cons, List.map_nil]); first | done | rfl | (simp only [List.length_drop, List.length_take]; rfl)) ?_; (with_reducible refine (patterns_Match.calls k a0 a1 a2 t483 t484 t487 t488 _ A4.out).mono ?_); rintro e w7 ⟨v485, rfl, ho0, hb⟩; refine ⟨_, rfl, ?_⟩; have n0_ := Aside0.mk (Kd.R_lower ho0 (below_size (by repeat (first | (with_reducible first | exact HB.out | apply below_alloc | apply pw_below_drewN | apply below_drew1) | exact HB.out)))); have n1_ := Aside0.mk (below_step (by repeat (first | (with_reducible first | exact HB.out | apply below_alloc | apply pw_below_drewN | apply below_drew1) | exact HB.out)) hb); clear HB; have HO486 := n0_; have HB := n1_; clear n0_ n1_; (try clear hb); (try clear hb2); (try clear hk); (try clear hi); (try clear ho0)) | ((with_reducible refine gate_dst (N := 9) rfl ?_); (try (refine gate_guard (by rfl) ?_; dsimp only)); refine box_event ?hg (N := 9) ?hd (cs := #[.int .i64 0, .int .i64 0]) (t := 27) ?hr ?_; (case hd => rfl); (case hg => rfl); (case hr => first | (go_simp; done) | (go_simp; rfl)); intro gb489 hg w8 hbox hb; have n0_ := Aside0.mk (Kd.R_below (by (with_reducible repeat (first | apply Kd.R_alloc | apply Kd.R_drewN | apply Kd.R_drew)); exact HO486.out) hb); have n1_ := Aside0.mk (below_step (by repeat (first | (with_reducible first | exact HB.out | apply below_alloc | apply pw_below_drewN | apply below_drew1) | exact HB.out)) hb); have n2_ := Aside0.mk (hbox); have n3_ := Aside0.mk ((by rw [hg]; exact (below_size (by repeat (first | (with_reducible first | exact HB.out | apply below_alloc | apply pw_below_drewN | apply below_drew1) | exact HB.out))) : w.heap.size ≤ gb489)); have n4_ := Aside0.mk ((by rw [hg]; exact (below_size (by repeat (first | (with_reducible first | exact HB.out | apply below_alloc | apply pw_below_drewN | apply below_drew1) | exact HB.out))) : w.heap.size ≤ gb489)); clear HO486; clear HB; have HO486 := n0_; have HB := n1_; have BK489 := n2_; have GW489 := n3_; have GE489 := n4_; clear n0_ n1_ n2_ n3_ n4_; clear hb hbox hg; have hcz9_0 : w8.cell? ⟨gb489, 0, none⟩ = some (.int .i64 0) := (blk_cell BK489.out 0).trans rfl; have hcz9_1 : w8.cell? ⟨gb489, 1, none⟩ = some (.int .i64 0) := (blk_cell BK489.out 1).trans rfl; have hfz9_0 := blk_frozen BK489.out 0; have hfz9_1 := blk_frozen BK489.out 1) | ((with_reducible refine gate_callee (f := 16) rfl ?_); refine goesL_ (some 23) rfl rfl Try.func16 (by kernel_rfl) rfl #[.int .i64 a0, .string a1] rfl (by (try simp only [List.map_toArray, List.map_cons, List.map_nil]); first | done | rfl | (simp only [List.length_drop, List.length_take]; rfl)) ?_; (with_reducible refine (posthouseref6_PatternFault.calls k a0 a1 t490 t491 _ A5.out).mono ?_); rintro e w10 ⟨rfl, hb⟩; refine ⟨_, rfl, ?_⟩; have n0_ := Aside0.mk (Kd.R_below (by (with_reducible repeat (first | apply Kd.R_alloc | apply Kd.R_drewN | apply Kd.R_drew)); exact (Kd.R_mono (Kd.R_far (p := ⟨gb489, 1, none⟩) (Kd.R_far (p := ⟨gb489, 0, none⟩) (Kd.R_types HO486.out BK489.out (by decide)) (fun _ hk => hk.2) (.int .i64 t487)) (fun _ hk => hk.2) (.int .i64 t488)) (fun _ h_ => h_.1))) hb); have n1_ := Aside0.mk (blk_below (g := gb489) (o := .cells #[.int .i64 t487, .int .i64 t488] 27 (0, 0)) (by (with_reducible repeat (first | refine blk_drewN ?_ _ | refine blk_drew ?_ | refine blk_alloc ?_ _)); refine blk_put (cs := #[.int .i64 t487, .int .i64 0]) ?_ 1 _ rfl; (with_reducible repeat (first | refine blk_drewN ?_ _ | refine blk_drew ?_ | refine blk_alloc ?_ _)); refine blk_put (cs := #[.int .i64 0, .int .i64 0]) ?_ 0 _ rfl; (with_reducible repeat (first | refine blk_drewN ?_ _ | refine blk_drew ?_ | refine blk_alloc ?_ _)); exact BK489.out) hb); have n2_ := Aside0.mk (below_step (by repeat (first | (with_reducible first | exact HB.out | apply below_alloc | apply pw_below_drewN | apply below_drew1 | refine below_set ?_ GE489.out) | exact HB.out)) hb); clear HO486; clear BK489; clear HB; have HO486 := n0_; have BK489 := n1_; have HB := n2_; clear n0_ n1_ n2_; (try clear hb); (try clear hb2); (try clear hk); (try clear hi)) | ((with_reducible refine gate_dst (N := 10) rfl ?_); (try (refine gate_guard (by rfl) ?_; dsimp only)); refine box_event ?hg (N := 10) ?hd (cs := #[.int .i64 0, .int .i64 0]) (t := 27) ?hr ?_; (case hd => rfl); (case hg => rfl); (case hr => first | (go_simp; done) | (go_simp; rfl)); intro gb492 hg w11 hbox hb; have n0_ := Aside0.mk (Kd.R_below (by (with_reducible repeat (first | apply Kd.R_alloc | apply Kd.R_drewN | apply Kd.R_drew)); exact HO486.out) hb); have n1_ := Aside0.mk (blk_below (g := gb489) (o := .cells #[.int .i64 t487, .int .i64 t488] 27 (0, 0)) (by (with_reducible repeat (first | refine blk_drewN ?_ _ | refine blk_drew ?_ | refine blk_alloc ?_ _)); exact BK489.out) hb); have n2_ := Aside0.mk (below_step (by repeat (first | (with_reducible first | exact HB.out | apply below_alloc | apply pw_below_drewN | apply below_drew1 | refine below_set ?_ GE489.out) | exact HB.out)) hb); have n3_ := Aside0.mk (hbox); have n4_ := Aside0.mk ((by rw [hg]; exact (below_size (by repeat (first | (with_reducible first | exact HB.out | apply below_alloc | apply pw_below_drewN | apply below_drew1 | refine below_set ?_ GE489.out) | exact HB.out))) : w.heap.size ≤ gb492)); have n5_ := Aside0.mk ((by rw [hg]; exact (below_size (by repeat (first | (with_reducible first | exact HB.out | apply below_alloc | apply pw_below_drewN | apply below_drew1 | refine below_set ?_ GE489.out) | exact HB.out))) : w.heap.size ≤ gb492)); have n6_ := Aside0.mk ((by rw [hg]; exact Nat.ne_of_lt (blk_lt (g := gb489) (o := .cells #[.int .i64 t487, .int .i64 t488] 27 (0, 0)) (by (with_reducible repeat (first | refine blk_drewN ?_ _ | refine blk_drew ?_ | refine blk_alloc ?_ _)); exact BK489.out)) : gb489 ≠ gb492)); have n7_ := Aside0.mk ((by rw [hg]; exact Nat.ne_of_gt (blk_lt (g := gb489) (o := .cells #[.int .i64 t487, .int .i64 t488] 27 (0, 0)) (by (with_reducible repeat (first | refine blk_drewN ?_ _ | refine blk_drew ?_ | refine blk_alloc ?_ _)); exact BK489.out)) : gb492 ≠ gb489)); clear HO486; clear BK489; clear HB; have HO486 := n0_; have BK489 := n1_; have HB := n2_; have BK492 := n3_; have GW492 := n4_; have GE492 := n5_; have NB489_492 := n6_; have NB492_489 := n7_; clear n0_ n1_ n2_ n3_ n4_ n5_ n6_ n7_; clear hb hbox hg; have hnb12 := NB492_489.out; have hnc12 := NB489_492.out; have hcz13_0 : w11.cell? ⟨gb492, 0, none⟩ = some (.int .i64 0) := (blk_cell BK492.out 0).trans rfl; have hcz13_1 : w11.cell? ⟨gb492, 1, none⟩ = some (.int .i64 0) := (blk_cell BK492.out 1).trans rfl; have hfz13_0 := blk_frozen BK492.out 0; have hfz13_1 := blk_frozen BK492.out 1))
 (try simp only [Act.put, List.setIfInBounds_toArray, List.set_cons_zero, List.set_cons_succ])
 go_cut [31] (fun v31 wc => ∃ (kq : Nat) (x31_5 : Bool), v31 = .bool x31_5 ∧ Aside0 (posthouselaw6_PatternsMatchSpec.j0 kq a0 a1 a2 t483 t484 x31_5 t487 t488 t490 t491 = some r) ∧ Aside0 (kq ≤ k) ∧ Aside0 (Kd.R Kd.string 9 wc w.heap.size (fun _ => True) v485 t484) ∧ Aside0 (wc.heap[gb489]? = some (.cells #[.int .i64 t487, .int .i64 t488] 27 (0, 0))) ∧ Aside0 (wc.heap[gb492]? = some (.cells #[.int .i64 t490, .int .i64 t491] 27 (0, 0))) ∧ Aside0 (Below w.heap.size w wc))
 case first =>
  have H := HC6.out
  clear HC6
  by_cases c14 : t490 = 0
  rotate_left
  ·
   rw [if_neg c14] at H
   have c14b0 : (t490 == 0) = false := beq_eq_false_iff_ne.mpr c14
   have c14b1 : (t490 != 0) = true := bne_iff_ne.mpr c14
   (first | rw [c14b0] | (simp only [i64_w, i32_w]; rw [c14b0]) | skip)
   have H' := Aside0.mk H
   clear H
   have hnb17 := NB492_489.out
   have hnc17 := NB489_492.out
   have hcz18_0 : w11.cell? ⟨gb492, 0, none⟩ = some (.int .i64 0) := (blk_cell BK492.out 0).trans rfl
   have hcz18_1 : w11.cell? ⟨gb492, 1, none⟩ = some (.int .i64 0) := (blk_cell BK492.out 1).trans rfl
   have hfz18_0 := blk_frozen BK492.out 0
   have hfz18_1 := blk_frozen BK492.out 1
   go_wp2
   go_meet
   case rel => exact ⟨_, (false), (by first | rfl | (simp; done) | (simp [*]; done)), H', ⟨by first | omega | exact Nat.le_refl _⟩, ⟨by (with_reducible repeat (first | apply Kd.R_alloc | apply Kd.R_drewN | apply Kd.R_drew)); exact Kd.R_mono (Kd.R_far (p := ⟨gb492, 1, none⟩) (Kd.R_far (p := ⟨gb492, 0, none⟩) (Kd.R_types HO486.out BK492.out (by decide)) (fun _ hk => hk.2) (.int .i64 t490)) (fun _ hk => hk.2) (.int .i64 t491)) (fun _ hk => trivial)⟩, ⟨by (with_reducible repeat (first | refine blk_drewN ?_ _ | refine blk_drew ?_ | refine blk_alloc ?_ _)); refine blk_far ?_ NB489_492.out _; (with_reducible repeat (first | refine blk_drewN ?_ _ | refine blk_drew ?_ | refine blk_alloc ?_ _)); refine blk_far ?_ NB489_492.out _; (with_reducible repeat (first | refine blk_drewN ?_ _ | refine blk_drew ?_ | refine blk_alloc ?_ _)); exact BK489.out⟩, ⟨by (with_reducible repeat (first | refine blk_drewN ?_ _ | refine blk_drew ?_ | refine blk_alloc ?_ _)); refine blk_put (cs := #[.int .i64 t490, .int .i64 0]) ?_ 1 _ rfl; (with_reducible repeat (first | refine blk_drewN ?_ _ | refine blk_drew ?_ | refine blk_alloc ?_ _)); refine blk_put (cs := #[.int .i64 0, .int .i64 0]) ?_ 0 _ rfl; (with_reducible repeat (first | refine blk_drewN ?_ _ | refine blk_drew ?_ | refine blk_alloc ?_ _)); exact BK492.out⟩, ⟨by repeat (first | (with_reducible first | exact HB.out | apply below_alloc | apply pw_below_drewN | apply below_drew1 | refine below_set ?_ GE489.out | refine below_set ?_ GE492.out) | exact HB.out)⟩⟩
  rw [if_pos c14] at H
  have c14b0 : (t490 == 0) = true := beq_iff_eq.mpr c14
  have c14b1 : (t490 != 0) = false := bne_eq_false_iff_eq.mpr c14
  clear c14
  (first | rw [c14b0] | (simp only [i64_w, i32_w]; rw [c14b0]) | skip)
  have H' := Aside0.mk H
  clear H
  have hnb15 := NB492_489.out
  have hnc15 := NB489_492.out
  have hcz16_0 : w11.cell? ⟨gb492, 0, none⟩ = some (.int .i64 0) := (blk_cell BK492.out 0).trans rfl
  have hcz16_1 : w11.cell? ⟨gb492, 1, none⟩ = some (.int .i64 0) := (blk_cell BK492.out 1).trans rfl
  have hfz16_0 := blk_frozen BK492.out 0
  have hfz16_1 := blk_frozen BK492.out 1
  go_wp2
  go_meet
  case rel => exact ⟨_, (decide ((a2.size : Int) > 4000)), (by first | rfl | (simp; done) | (simp [*]; done)), H', ⟨by first | omega | exact Nat.le_refl _⟩, ⟨by (with_reducible repeat (first | apply Kd.R_alloc | apply Kd.R_drewN | apply Kd.R_drew)); exact Kd.R_mono (Kd.R_far (p := ⟨gb492, 1, none⟩) (Kd.R_far (p := ⟨gb492, 0, none⟩) (Kd.R_types HO486.out BK492.out (by decide)) (fun _ hk => hk.2) (.int .i64 t490)) (fun _ hk => hk.2) (.int .i64 t491)) (fun _ hk => trivial)⟩, ⟨by (with_reducible repeat (first | refine blk_drewN ?_ _ | refine blk_drew ?_ | refine blk_alloc ?_ _)); refine blk_far ?_ NB489_492.out _; (with_reducible repeat (first | refine blk_drewN ?_ _ | refine blk_drew ?_ | refine blk_alloc ?_ _)); refine blk_far ?_ NB489_492.out _; (with_reducible repeat (first | refine blk_drewN ?_ _ | refine blk_drew ?_ | refine blk_alloc ?_ _)); exact BK489.out⟩, ⟨by (with_reducible repeat (first | refine blk_drewN ?_ _ | refine blk_drew ?_ | refine blk_alloc ?_ _)); refine blk_put (cs := #[.int .i64 t490, .int .i64 0]) ?_ 1 _ rfl; (with_reducible repeat (first | refine blk_drewN ?_ _ | refine blk_drew ?_ | refine blk_alloc ?_ _)); refine blk_put (cs := #[.int .i64 0, .int .i64 0]) ?_ 0 _ rfl; (with_reducible repeat (first | refine blk_drewN ?_ _ | refine blk_drew ?_ | refine blk_alloc ?_ _)); exact BK492.out⟩, ⟨by repeat (first | (with_reducible first | exact HB.out | apply below_alloc | apply pw_below_drewN | apply below_drew1 | refine below_set ?_ GE489.out | refine below_set ?_ GE492.out) | exact HB.out)⟩⟩
 case rest =>
  clear HC6
  (try clear c1); (try clear p2); (try clear c6); (try clear c12); (try clear c14); (try clear c14b0); (try clear c14b1); (try clear c15); (try clear c16); (try clear c17); (try clear hcz13_0); (try clear hcz13_1); (try clear hcz16_0); (try clear hcz16_1); (try clear hcz18_0); (try clear hcz18_1); (try clear hcz9_0); (try clear hcz9_1); (try clear hfz13_0); (try clear hfz13_1); (try clear hfz16_0); (try clear hfz16_1); (try clear hfz18_0); (try clear hfz18_1); (try clear hfz9_0); (try clear hfz9_1)
  obtain ⟨kq, x31_5, rfl, HA, HJ5, HO_8, BK489, BK492, HB⟩ := hcut
  cases kq with
  | zero => exact absurd HA.out (by simp [posthouselaw6_PatternsMatchSpec.j0])
  | succ kj5 =>
   have H := HA.out
   clear HA
   simp only [posthouselaw6_PatternsMatchSpec.j0] at H
   have HC19 := Aside0.mk H
   clear H
   go_upto_if 31 with (fail)
   go_cut [] (fun wc => ∃ (kq : Nat) (x493000_18 : Int) (x493001_18 : Int), Aside0 (posthouselaw6_PatternsMatchSpec.j1 kq a0 a1 a2 t483 t484 t487 t488 x493000_18 x493001_18 = some r) ∧ Aside0 (kq ≤ kj5) ∧ Aside0 (Kd.R Kd.string 9 wc w.heap.size (fun _ => True) v485 t484) ∧ Aside0 (wc.heap[gb489]? = some (.cells #[.int .i64 t487, .int .i64 t488] 27 (0, 0))) ∧ Aside0 (wc.heap[gb492]? = some (.cells #[.int .i64 x493000_18, .int .i64 x493001_18] 27 (0, 0))) ∧ Aside0 (Below w.heap.size w wc))
   case first =>
    have H := HC19.out
    clear HC19
    by_cases c20 : x31_5 = true
    rotate_left
    ·
     replace c20 := Bool.eq_false_iff.mpr c20
     subst c20
     have H1 : (posthouselaw6_PatternsMatchSpec.j1 kj5 a0 a1 a2 t483 t484 t487 t488 t490 t491) = some r := by rw [if_neg (show ¬ (false = true) by decide)] at H; exact H
     clear H
     have H := H1
     clear H1
     have H' := Aside0.mk H
     clear H
     go_wp2
     go_meet
     case rel => exact ⟨_, (t490), (t491), H', ⟨by have := HJ5.out; first | omega | exact Nat.le_refl _⟩, ⟨by (with_reducible repeat (first | apply Kd.R_alloc | apply Kd.R_drewN | apply Kd.R_drew)); exact HO_8.out⟩, ⟨by (with_reducible repeat (first | refine blk_drewN ?_ _ | refine blk_drew ?_ | refine blk_alloc ?_ _)); exact BK489.out⟩, ⟨by (with_reducible repeat (first | refine blk_drewN ?_ _ | refine blk_drew ?_ | refine blk_alloc ?_ _)); exact BK492.out⟩, ⟨by repeat (first | (with_reducible first | exact HB.out | apply below_alloc | apply pw_below_drewN | apply below_drew1 | refine below_set ?_ GE489.out | refine below_set ?_ GE492.out) | exact HB.out)⟩⟩
    subst c20
    have H1 : ((posthouseref5_At.f 1 (-1)).bind fun bt493 => (posthouselaw6_PatternsMatchSpec.j1 kj5 a0 a1 a2 t483 t484 t487 t488 bt493.1 bt493.2)) = some r := by rw [if_pos rfl] at H; exact H
    clear H
    have H := H1
    clear H1
    replace H := Option.bind_eq_some_iff.mp H
    obtain ⟨⟨t493, t494⟩, A210, H⟩ := H
    replace H : (posthouselaw6_PatternsMatchSpec.j1 kj5 a0 a1 a2 t483 t484 t487 t488 t493 t494) = some r := H
    have A21 := Aside0.mk A210
    clear A210
    have H' := Aside0.mk H
    clear H
    go_wp2_with (first | ((with_reducible refine gate_callee (f := 17) rfl ?_); refine goesL_ (some 32) rfl rfl Try.func17 (by kernel_rfl) rfl #[.int .i64 1, .int .i64 (-1)] rfl (by (try simp only [List.map_toArray, List.map_cons, List.map_nil]); first | done | rfl | (simp only [List.length_drop, List.length_take]; rfl)) ?_; (with_reducible refine (posthouseref5_At.calls 1 (-1) t493 t494 _ A21.out).mono ?_); rintro e w22 ⟨rfl, hb⟩; refine ⟨_, rfl, ?_⟩; have n0_ := Aside0.mk (Kd.R_below (by (with_reducible repeat (first | apply Kd.R_alloc | apply Kd.R_drewN | apply Kd.R_drew)); exact HO_8.out) hb); have n1_ := Aside0.mk (blk_below (g := gb489) (o := .cells #[.int .i64 t487, .int .i64 t488] 27 (0, 0)) (by (with_reducible repeat (first | refine blk_drewN ?_ _ | refine blk_drew ?_ | refine blk_alloc ?_ _)); exact BK489.out) hb); have n2_ := Aside0.mk (blk_below (g := gb492) (o := .cells #[.int .i64 t490, .int .i64 t491] 27 (0, 0)) (by (with_reducible repeat (first | refine blk_drewN ?_ _ | refine blk_drew ?_ | refine blk_alloc ?_ _)); exact BK492.out) hb); have n3_ := Aside0.mk (below_step (by repeat (first | (with_reducible first | exact HB.out | apply below_alloc | apply pw_below_drewN | apply below_drew1 | refine below_set ?_ GE489.out | refine below_set ?_ GE492.out) | exact HB.out)) hb); clear HO_8; clear BK489; clear BK492; clear HB; have HO_8 := n0_; have BK489 := n1_; have BK492 := n2_; have HB := n3_; clear n0_ n1_ n2_ n3_; (try clear hb); (try clear hb2); (try clear hk); (try clear hi); have hnb23 := NB492_489.out; have hnc23 := NB489_492.out; have hcz24_0 : w22.cell? ⟨gb492, 0, none⟩ = some (.int .i64 t490) := (blk_cell BK492.out 0).trans rfl; have hcz24_1 : w22.cell? ⟨gb492, 1, none⟩ = some (.int .i64 t491) := (blk_cell BK492.out 1).trans rfl; have hfz24_0 := blk_frozen BK492.out 0; have hfz24_1 := blk_frozen BK492.out 1))
    go_meet
    case rel => exact ⟨_, (t493), (t494), H', ⟨by have := HJ5.out; first | omega | exact Nat.le_refl _⟩, ⟨by (with_reducible repeat (first | apply Kd.R_alloc | apply Kd.R_drewN | apply Kd.R_drew)); exact Kd.R_mono (Kd.R_far (p := ⟨gb492, 1, none⟩) (Kd.R_far (p := ⟨gb492, 0, none⟩) (Kd.R_types HO_8.out BK492.out (by decide)) (fun _ hk => hk.2) (.int .i64 t493)) (fun _ hk => hk.2) (.int .i64 t494)) (fun _ hk => trivial)⟩, ⟨by (with_reducible repeat (first | refine blk_drewN ?_ _ | refine blk_drew ?_ | refine blk_alloc ?_ _)); refine blk_far ?_ NB489_492.out _; (with_reducible repeat (first | refine blk_drewN ?_ _ | refine blk_drew ?_ | refine blk_alloc ?_ _)); refine blk_far ?_ NB489_492.out _; (with_reducible repeat (first | refine blk_drewN ?_ _ | refine blk_drew ?_ | refine blk_alloc ?_ _)); exact BK489.out⟩, ⟨by (with_reducible repeat (first | refine blk_drewN ?_ _ | refine blk_drew ?_ | refine blk_alloc ?_ _)); refine blk_put (cs := #[.int .i64 t493, .int .i64 t491]) ?_ 1 _ rfl; (with_reducible repeat (first | refine blk_drewN ?_ _ | refine blk_drew ?_ | refine blk_alloc ?_ _)); refine blk_put (cs := #[.int .i64 t490, .int .i64 t491]) ?_ 0 _ rfl; (with_reducible repeat (first | refine blk_drewN ?_ _ | refine blk_drew ?_ | refine blk_alloc ?_ _)); exact BK492.out⟩, ⟨by repeat (first | (with_reducible first | exact HB.out | apply below_alloc | apply pw_below_drewN | apply below_drew1 | refine below_set ?_ GE489.out | refine below_set ?_ GE492.out) | exact HB.out)⟩⟩
   case rest =>
    clear HC19
    (try clear c1); (try clear c2); (try clear p2); (try clear c6); (try clear c12); (try clear c14); (try clear c14b0); (try clear c14b1); (try clear c15); (try clear c16); (try clear c17); (try clear c20); (try clear c23); (try clear hcz13_0); (try clear hcz13_1); (try clear hcz16_0); (try clear hcz16_1); (try clear hcz18_0); (try clear hcz18_1); (try clear hcz24_0); (try clear hcz24_1); (try clear hcz9_0); (try clear hcz9_1); (try clear hfz13_0); (try clear hfz13_1); (try clear hfz16_0); (try clear hfz16_1); (try clear hfz18_0); (try clear hfz18_1); (try clear hfz24_0); (try clear hfz24_1); (try clear hfz9_0)
    (try clear hfz9_1); (try clear p2)
    obtain ⟨kq, x493000_18, x493001_18, HA, HJ18, HO_8, BK489, BK492, HB⟩ := hcut
    cases kq with
    | zero => exact absurd HA.out (by simp [posthouselaw6_PatternsMatchSpec.j1])
    | succ kj18 =>
     have H := HA.out
     clear HA
     simp only [posthouselaw6_PatternsMatchSpec.j1] at H
     by_cases c25 : x493000_18 = 0
     ·
      rw [if_pos c25] at H
      have c25b0 : (x493000_18 == 0) = true := beq_iff_eq.mpr c25
      have c25b1 : (x493000_18 != 0) = false := bne_eq_false_iff_eq.mpr c25
      clear c25
      replace H := Option.bind_eq_some_iff.mp H
      obtain ⟨⟨t495, t496⟩, A260, H⟩ := H
      replace H : (if t487 = 0 then (if (t483 == t495) = true then ((posthouseref5_SameTexts.f kj18 t484 t496).bind fun t499 => (if t499 = true then ((posthouselaw6_matched.f kj18).bind fun t500 => (some t500)) else (some false))) else (some false)) else (some false)) = some r := H
      have A26 := Aside0.mk A260
      clear A260
      by_cases c27 : t487 = 0
      rotate_left
      ·
       rw [if_neg c27] at H
       have c27b0 : (t487 == 0) = false := beq_eq_false_iff_ne.mpr c27
       have c27b1 : (t487 != 0) = true := bne_iff_ne.mpr c27
       obtain rfl := Option.some.inj H
       have hnb49 := NB492_489.out
       have hnc49 := NB489_492.out
       have hcz50_0 : wc.cell? ⟨gb492, 0, none⟩ = some (.int .i64 x493000_18) := (blk_cell BK492.out 0).trans rfl
       have hcz50_1 : wc.cell? ⟨gb492, 1, none⟩ = some (.int .i64 x493001_18) := (blk_cell BK492.out 1).trans rfl
       have hfz50_0 := blk_frozen BK492.out 0
       have hfz50_1 := blk_frozen BK492.out 1
       go_wp2_with (first | ((with_reducible refine gate_callee (f := 19) rfl ?_); refine goesL_ (some 55) rfl rfl Try.func19 (by kernel_rfl) rfl #[.int .i64 a0, .string a1, .string a2] rfl (by (try simp only [List.map_toArray, List.map_cons, List.map_nil]); first | done | rfl | (simp only [List.length_drop, List.length_take]; rfl)) ?_; (with_reducible refine (posthouseref6_Matched.calls kj18 a0 a1 a2 t495 t496 _ A26.out).mono ?_); rintro e w51 ⟨v497, rfl, ho0, hb⟩; refine ⟨_, rfl, ?_⟩; have n0_ := Aside0.mk (Kd.R_elder' (by (with_reducible repeat (first | apply Kd.R_alloc | apply Kd.R_drewN | apply Kd.R_drew)); exact HO_8.out) (Kd.R_base ho0) hb); have n1_ := Aside0.mk (Kd.R_lower (Kd.R_new' ho0 (Kd.R_lt (by (with_reducible repeat (first | apply Kd.R_alloc | apply Kd.R_drewN | apply Kd.R_drew)); exact HO_8.out))) (below_size (by repeat (first | (with_reducible first | exact HB.out | apply below_alloc | apply pw_below_drewN | apply below_drew1 | refine below_set ?_ GE489.out | refine below_set ?_ GE492.out) | exact HB.out)))); have n2_ := Aside0.mk (blk_below (g := gb489) (o := .cells #[.int .i64 t487, .int .i64 t488] 27 (0, 0)) (by (with_reducible repeat (first | refine blk_drewN ?_ _ | refine blk_drew ?_ | refine blk_alloc ?_ _)); exact BK489.out) hb); have n3_ := Aside0.mk (blk_below (g := gb492) (o := .cells #[.int .i64 x493000_18, .int .i64 x493001_18] 27 (0, 0)) (by (with_reducible repeat (first | refine blk_drewN ?_ _ | refine blk_drew ?_ | refine blk_alloc ?_ _)); exact BK492.out) hb); have n4_ := Aside0.mk (below_step (by repeat (first | (with_reducible first | exact HB.out | apply below_alloc | apply pw_below_drewN | apply below_drew1 | refine below_set ?_ GE489.out | refine below_set ?_ GE492.out) | exact HB.out)) hb); clear HO_8; clear BK489; clear BK492; clear HB; have HO_8 := n0_; have HO498 := n1_; have BK489 := n2_; have BK492 := n3_; have HB := n4_; clear n0_ n1_ n2_ n3_ n4_; (try clear hb); (try clear hb2); (try clear hk); (try clear hi); (try clear ho0); have hcz52_0 : w51.cell? ⟨gb489, 0, none⟩ = some (.int .i64 t487) := (blk_cell BK489.out 0).trans rfl; have hcz52_1 : w51.cell? ⟨gb489, 1, none⟩ = some (.int .i64 t488) := (blk_cell BK489.out 1).trans rfl; have hfz52_0 := blk_frozen BK489.out 0; have hfz52_1 := blk_frozen BK489.out 1))
       go_ret
       exact ⟨by first | rfl | (simp [errW_none, errW_some] <;> rfl) | (simp [*, errW_none, errW_some] <;> rfl), by repeat (first | (with_reducible first | exact HB.out | apply below_alloc | apply pw_below_drewN | apply below_drew1 | refine below_set ?_ GE489.out | refine below_set ?_ GE492.out) | exact HB.out)⟩
      rw [if_pos c27] at H
      have c27b0 : (t487 == 0) = true := beq_iff_eq.mpr c27
      have c27b1 : (t487 != 0) = false := bne_eq_false_iff_eq.mpr c27
      clear c27
      by_cases c28 : (t483 == t495) = true
      rotate_left
      ·
       rw [if_neg c28] at H
       have c28b0 : (t483 == t495) = false := by simpa using c28
       (try (have c28b1 : decide (t483 = t495) = false := by simpa using c28))
       (try (have c28b2 : (t483 == t495) = false := by simpa using c28))
       (try (have c28b3 : ¬ (t483 = t495) := by simpa using c28))
       clear c28
       obtain rfl := Option.some.inj H
       have hnb45 := NB492_489.out
       have hnc45 := NB489_492.out
       have hcz46_0 : wc.cell? ⟨gb492, 0, none⟩ = some (.int .i64 x493000_18) := (blk_cell BK492.out 0).trans rfl
       have hcz46_1 : wc.cell? ⟨gb492, 1, none⟩ = some (.int .i64 x493001_18) := (blk_cell BK492.out 1).trans rfl
       have hfz46_0 := blk_frozen BK492.out 0
       have hfz46_1 := blk_frozen BK492.out 1
       go_wp2_with (first | ((with_reducible refine gate_callee (f := 19) rfl ?_); refine goesL_ (some 55) rfl rfl Try.func19 (by kernel_rfl) rfl #[.int .i64 a0, .string a1, .string a2] rfl (by (try simp only [List.map_toArray, List.map_cons, List.map_nil]); first | done | rfl | (simp only [List.length_drop, List.length_take]; rfl)) ?_; (with_reducible refine (posthouseref6_Matched.calls kj18 a0 a1 a2 t495 t496 _ A26.out).mono ?_); rintro e w47 ⟨v497, rfl, ho0, hb⟩; refine ⟨_, rfl, ?_⟩; have n0_ := Aside0.mk (Kd.R_elder' (by (with_reducible repeat (first | apply Kd.R_alloc | apply Kd.R_drewN | apply Kd.R_drew)); exact HO_8.out) (Kd.R_base ho0) hb); have n1_ := Aside0.mk (Kd.R_lower (Kd.R_new' ho0 (Kd.R_lt (by (with_reducible repeat (first | apply Kd.R_alloc | apply Kd.R_drewN | apply Kd.R_drew)); exact HO_8.out))) (below_size (by repeat (first | (with_reducible first | exact HB.out | apply below_alloc | apply pw_below_drewN | apply below_drew1 | refine below_set ?_ GE489.out | refine below_set ?_ GE492.out) | exact HB.out)))); have n2_ := Aside0.mk (blk_below (g := gb489) (o := .cells #[.int .i64 t487, .int .i64 t488] 27 (0, 0)) (by (with_reducible repeat (first | refine blk_drewN ?_ _ | refine blk_drew ?_ | refine blk_alloc ?_ _)); exact BK489.out) hb); have n3_ := Aside0.mk (blk_below (g := gb492) (o := .cells #[.int .i64 x493000_18, .int .i64 x493001_18] 27 (0, 0)) (by (with_reducible repeat (first | refine blk_drewN ?_ _ | refine blk_drew ?_ | refine blk_alloc ?_ _)); exact BK492.out) hb); have n4_ := Aside0.mk (below_step (by repeat (first | (with_reducible first | exact HB.out | apply below_alloc | apply pw_below_drewN | apply below_drew1 | refine below_set ?_ GE489.out | refine below_set ?_ GE492.out) | exact HB.out)) hb); clear HO_8; clear BK489; clear BK492; clear HB; have HO_8 := n0_; have HO498 := n1_; have BK489 := n2_; have BK492 := n3_; have HB := n4_; clear n0_ n1_ n2_ n3_ n4_; (try clear hb); (try clear hb2); (try clear hk); (try clear hi); (try clear ho0); have hcz48_0 : w47.cell? ⟨gb489, 0, none⟩ = some (.int .i64 t487) := (blk_cell BK489.out 0).trans rfl; have hcz48_1 : w47.cell? ⟨gb489, 1, none⟩ = some (.int .i64 t488) := (blk_cell BK489.out 1).trans rfl; have hfz48_0 := blk_frozen BK489.out 0; have hfz48_1 := blk_frozen BK489.out 1))
       go_ret
       exact ⟨by first | rfl | (simp [errW_none, errW_some] <;> rfl) | (simp [*, errW_none, errW_some] <;> rfl), by repeat (first | (with_reducible first | exact HB.out | apply below_alloc | apply pw_below_drewN | apply below_drew1 | refine below_set ?_ GE489.out | refine below_set ?_ GE492.out) | exact HB.out)⟩
      rw [if_pos c28] at H
      have c28b0 : (t483 == t495) = true := c28
      (try (have c28b1 : decide (t483 = t495) = true := by simpa using c28))
      (try (have c28b2 : (t483 == t495) = true := by simpa using c28))
      clear c28
      replace H := Option.bind_eq_some_iff.mp H
      obtain ⟨t499, A290, H⟩ := H
      replace H : (if t499 = true then ((posthouselaw6_matched.f kj18).bind fun t500 => (some t500)) else (some false)) = some r := H
      have A29 := Aside0.mk A290
      clear A290
      by_cases c30 : t499 = true
      rotate_left
      ·
       replace c30 := Bool.eq_false_iff.mpr c30
       subst c30
       have H1 : (some false) = some r := by rw [if_neg (show ¬ (false = true) by decide)] at H; exact H
       clear H
       have H := H1
       clear H1
       obtain rfl := Option.some.inj H
       have hnb39 := NB492_489.out
       have hnc39 := NB489_492.out
       have hcz40_0 : wc.cell? ⟨gb492, 0, none⟩ = some (.int .i64 x493000_18) := (blk_cell BK492.out 0).trans rfl
       have hcz40_1 : wc.cell? ⟨gb492, 1, none⟩ = some (.int .i64 x493001_18) := (blk_cell BK492.out 1).trans rfl
       have hfz40_0 := blk_frozen BK492.out 0
       have hfz40_1 := blk_frozen BK492.out 1
       go_wp2_with (first | ((with_reducible refine gate_callee (f := 19) rfl ?_); refine goesL_ (some 55) rfl rfl Try.func19 (by kernel_rfl) rfl #[.int .i64 a0, .string a1, .string a2] rfl (by (try simp only [List.map_toArray, List.map_cons, List.map_nil]); first | done | rfl | (simp only [List.length_drop, List.length_take]; rfl)) ?_; (with_reducible refine (posthouseref6_Matched.calls kj18 a0 a1 a2 t495 t496 _ A26.out).mono ?_); rintro e w41 ⟨v497, rfl, ho0, hb⟩; refine ⟨_, rfl, ?_⟩; have n0_ := Aside0.mk (Kd.R_elder' (by (with_reducible repeat (first | apply Kd.R_alloc | apply Kd.R_drewN | apply Kd.R_drew)); exact HO_8.out) (Kd.R_base ho0) hb); have n1_ := Aside0.mk (Kd.R_lower (Kd.R_new' ho0 (Kd.R_lt (by (with_reducible repeat (first | apply Kd.R_alloc | apply Kd.R_drewN | apply Kd.R_drew)); exact HO_8.out))) (below_size (by repeat (first | (with_reducible first | exact HB.out | apply below_alloc | apply pw_below_drewN | apply below_drew1 | refine below_set ?_ GE489.out | refine below_set ?_ GE492.out) | exact HB.out)))); have n2_ := Aside0.mk (blk_below (g := gb489) (o := .cells #[.int .i64 t487, .int .i64 t488] 27 (0, 0)) (by (with_reducible repeat (first | refine blk_drewN ?_ _ | refine blk_drew ?_ | refine blk_alloc ?_ _)); exact BK489.out) hb); have n3_ := Aside0.mk (blk_below (g := gb492) (o := .cells #[.int .i64 x493000_18, .int .i64 x493001_18] 27 (0, 0)) (by (with_reducible repeat (first | refine blk_drewN ?_ _ | refine blk_drew ?_ | refine blk_alloc ?_ _)); exact BK492.out) hb); have n4_ := Aside0.mk (below_step (by repeat (first | (with_reducible first | exact HB.out | apply below_alloc | apply pw_below_drewN | apply below_drew1 | refine below_set ?_ GE489.out | refine below_set ?_ GE492.out) | exact HB.out)) hb); clear HO_8; clear BK489; clear BK492; clear HB; have HO_8 := n0_; have HO498 := n1_; have BK489 := n2_; have BK492 := n3_; have HB := n4_; clear n0_ n1_ n2_ n3_ n4_; (try clear hb); (try clear hb2); (try clear hk); (try clear hi); (try clear ho0); have hcz42_0 : w41.cell? ⟨gb489, 0, none⟩ = some (.int .i64 t487) := (blk_cell BK489.out 0).trans rfl; have hcz42_1 : w41.cell? ⟨gb489, 1, none⟩ = some (.int .i64 t488) := (blk_cell BK489.out 1).trans rfl; have hfz42_0 := blk_frozen BK489.out 0; have hfz42_1 := blk_frozen BK489.out 1; obtain ⟨Ao43, co43, eo43⟩ := Kd.R_slice HO_8.out; subst eo43; obtain ⟨Ao44, co44, eo44⟩ := Kd.R_slice HO498.out; subst eo44) | (go_at_call 20; (with_reducible refine (posthouseref5_SameTexts.calls kj18 _ _ t484 _ _ t496 false _ ?side1 ?side2 ?side3 ?side4 A29.out).mono ?_); (case side1 => repeat (first | exact (Kd.R_reads' HO_8.out).2.2 | (with_reducible refine Kd.C_alloc ?_ _) | (with_reducible refine Kd.C_drewN ?_ _) | (with_reducible refine Kd.C_drew ?_))); (case side2 => exact (Kd.R_reads' HO_8.out).2.1); (case side3 => repeat (first | exact (Kd.R_reads' HO498.out).2.2 | (with_reducible refine Kd.C_alloc ?_ _) | (with_reducible refine Kd.C_drewN ?_ _) | (with_reducible refine Kd.C_drew ?_))); (case side4 => exact (Kd.R_reads' HO498.out).2.1); rintro e w' ⟨rfl, ⟨nd, rfl⟩⟩))
       go_ret
       exact ⟨by first | rfl | (simp [errW_none, errW_some] <;> rfl) | (simp [*, errW_none, errW_some] <;> rfl), by repeat (first | (with_reducible first | exact HB.out | apply below_alloc | apply pw_below_drewN | apply below_drew1 | refine below_set ?_ GE489.out | refine below_set ?_ GE492.out) | exact HB.out)⟩
      subst c30
      have H1 : ((posthouselaw6_matched.f kj18).bind fun t500 => (some t500)) = some r := by rw [if_pos rfl] at H; exact H
      clear H
      have H := H1
      clear H1
      replace H := Option.bind_eq_some_iff.mp H
      obtain ⟨t500, A310, H⟩ := H
      replace H : (some t500) = some r := H
      have A31 := Aside0.mk A310
      clear A310
      obtain rfl := Option.some.inj H
      have hnb32 := NB492_489.out
      have hnc32 := NB489_492.out
      have hcz33_0 : wc.cell? ⟨gb492, 0, none⟩ = some (.int .i64 x493000_18) := (blk_cell BK492.out 0).trans rfl
      have hcz33_1 : wc.cell? ⟨gb492, 1, none⟩ = some (.int .i64 x493001_18) := (blk_cell BK492.out 1).trans rfl
      have hfz33_0 := blk_frozen BK492.out 0
      have hfz33_1 := blk_frozen BK492.out 1
      go_wp2_with (first | ((with_reducible refine gate_callee (f := 19) rfl ?_); refine goesL_ (some 55) rfl rfl Try.func19 (by kernel_rfl) rfl #[.int .i64 a0, .string a1, .string a2] rfl (by (try simp only [List.map_toArray, List.map_cons, List.map_nil]); first | done | rfl | (simp only [List.length_drop, List.length_take]; rfl)) ?_; (with_reducible refine (posthouseref6_Matched.calls kj18 a0 a1 a2 t495 t496 _ A26.out).mono ?_); rintro e w34 ⟨v497, rfl, ho0, hb⟩; refine ⟨_, rfl, ?_⟩; have n0_ := Aside0.mk (Kd.R_elder' (by (with_reducible repeat (first | apply Kd.R_alloc | apply Kd.R_drewN | apply Kd.R_drew)); exact HO_8.out) (Kd.R_base ho0) hb); have n1_ := Aside0.mk (Kd.R_lower (Kd.R_new' ho0 (Kd.R_lt (by (with_reducible repeat (first | apply Kd.R_alloc | apply Kd.R_drewN | apply Kd.R_drew)); exact HO_8.out))) (below_size (by repeat (first | (with_reducible first | exact HB.out | apply below_alloc | apply pw_below_drewN | apply below_drew1 | refine below_set ?_ GE489.out | refine below_set ?_ GE492.out) | exact HB.out)))); have n2_ := Aside0.mk (blk_below (g := gb489) (o := .cells #[.int .i64 t487, .int .i64 t488] 27 (0, 0)) (by (with_reducible repeat (first | refine blk_drewN ?_ _ | refine blk_drew ?_ | refine blk_alloc ?_ _)); exact BK489.out) hb); have n3_ := Aside0.mk (blk_below (g := gb492) (o := .cells #[.int .i64 x493000_18, .int .i64 x493001_18] 27 (0, 0)) (by (with_reducible repeat (first | refine blk_drewN ?_ _ | refine blk_drew ?_ | refine blk_alloc ?_ _)); exact BK492.out) hb); have n4_ := Aside0.mk (below_step (by repeat (first | (with_reducible first | exact HB.out | apply below_alloc | apply pw_below_drewN | apply below_drew1 | refine below_set ?_ GE489.out | refine below_set ?_ GE492.out) | exact HB.out)) hb); clear HO_8; clear BK489; clear BK492; clear HB; have HO_8 := n0_; have HO498 := n1_; have BK489 := n2_; have BK492 := n3_; have HB := n4_; clear n0_ n1_ n2_ n3_ n4_; (try clear hb); (try clear hb2); (try clear hk); (try clear hi); (try clear ho0); have hcz35_0 : w34.cell? ⟨gb489, 0, none⟩ = some (.int .i64 t487) := (blk_cell BK489.out 0).trans rfl; have hcz35_1 : w34.cell? ⟨gb489, 1, none⟩ = some (.int .i64 t488) := (blk_cell BK489.out 1).trans rfl; have hfz35_0 := blk_frozen BK489.out 0; have hfz35_1 := blk_frozen BK489.out 1; obtain ⟨Ao36, co36, eo36⟩ := Kd.R_slice HO_8.out; subst eo36; obtain ⟨Ao37, co37, eo37⟩ := Kd.R_slice HO498.out; subst eo37) | (go_at_call 20; (with_reducible refine (posthouseref5_SameTexts.calls kj18 _ _ t484 _ _ t496 true _ ?side1 ?side2 ?side3 ?side4 A29.out).mono ?_); (case side1 => repeat (first | exact (Kd.R_reads' HO_8.out).2.2 | (with_reducible refine Kd.C_alloc ?_ _) | (with_reducible refine Kd.C_drewN ?_ _) | (with_reducible refine Kd.C_drew ?_))); (case side2 => exact (Kd.R_reads' HO_8.out).2.1); (case side3 => repeat (first | exact (Kd.R_reads' HO498.out).2.2 | (with_reducible refine Kd.C_alloc ?_ _) | (with_reducible refine Kd.C_drewN ?_ _) | (with_reducible refine Kd.C_drew ?_))); (case side4 => exact (Kd.R_reads' HO498.out).2.1); rintro e w' ⟨rfl, ⟨nd, rfl⟩⟩) | (go_at_call 18; (with_reducible refine (posthouselaw6_matched.calls kj18  t500 _ A31.out).mono ?_); rintro e w38 ⟨rfl, hb⟩; have n0_ := Aside0.mk (Kd.R_below (by (with_reducible repeat (first | apply Kd.R_alloc | apply Kd.R_drewN | apply Kd.R_drew)); exact HO_8.out) hb); have n1_ := Aside0.mk (Kd.R_below (by (with_reducible repeat (first | apply Kd.R_alloc | apply Kd.R_drewN | apply Kd.R_drew)); exact HO498.out) hb); have n2_ := Aside0.mk (blk_below (g := gb489) (o := .cells #[.int .i64 t487, .int .i64 t488] 27 (0, 0)) (by (with_reducible repeat (first | refine blk_drewN ?_ _ | refine blk_drew ?_ | refine blk_alloc ?_ _)); exact BK489.out) hb); have n3_ := Aside0.mk (blk_below (g := gb492) (o := .cells #[.int .i64 x493000_18, .int .i64 x493001_18] 27 (0, 0)) (by (with_reducible repeat (first | refine blk_drewN ?_ _ | refine blk_drew ?_ | refine blk_alloc ?_ _)); exact BK492.out) hb); have n4_ := Aside0.mk (below_step (by repeat (first | (with_reducible first | exact HB.out | apply below_alloc | apply pw_below_drewN | apply below_drew1 | refine below_set ?_ GE489.out | refine below_set ?_ GE492.out) | exact HB.out)) hb); clear HO_8; clear HO498; clear BK489; clear BK492; clear HB; have HO_8 := n0_; have HO498 := n1_; have BK489 := n2_; have BK492 := n3_; have HB := n4_; clear n0_ n1_ n2_ n3_ n4_; (try clear hb); (try clear hb2); (try clear hk); (try clear hi)))
      go_ret
      exact ⟨by first | rfl | (simp [errW_none, errW_some] <;> rfl) | (simp [*, errW_none, errW_some] <;> rfl), by repeat (first | (with_reducible first | exact HB.out | apply below_alloc | apply pw_below_drewN | apply below_drew1 | refine below_set ?_ GE489.out | refine below_set ?_ GE492.out) | exact HB.out)⟩
     rw [if_neg c25] at H
     have c25b0 : (x493000_18 == 0) = false := beq_eq_false_iff_ne.mpr c25
     have c25b1 : (x493000_18 != 0) = true := bne_iff_ne.mpr c25
     by_cases c53 : (t487 == x493000_18 && (t488 == x493001_18)) = true
     rotate_left
     ·
      rw [if_neg c53] at H
      have c53b0 : (t487 == x493000_18 && (t488 == x493001_18)) = false := by simpa using c53
      (try (have c53b1 : decide (t487 = x493000_18 && (t488 == x493001_18)) = false := by simpa using c53))
      (try (have c53b2 : (t487 == x493000_18 && (t488 == x493001_18)) = false := by simpa using c53))
      (try (have c53b3 : ¬ (t487 = x493000_18 && (t488 == x493001_18)) := by simpa using c53))
      clear c53
      obtain rfl := Option.some.inj H
      have hnb69 := NB492_489.out
      have hnc69 := NB489_492.out
      have hcz70_0 : wc.cell? ⟨gb492, 0, none⟩ = some (.int .i64 x493000_18) := (blk_cell BK492.out 0).trans rfl
      have hcz70_1 : wc.cell? ⟨gb492, 1, none⟩ = some (.int .i64 x493001_18) := (blk_cell BK492.out 1).trans rfl
      have hfz70_0 := blk_frozen BK492.out 0
      have hfz70_1 := blk_frozen BK492.out 1
      have hcz71_0 : wc.cell? ⟨gb489, 0, none⟩ = some (.int .i64 t487) := (blk_cell BK489.out 0).trans rfl
      have hcz71_1 : wc.cell? ⟨gb489, 1, none⟩ = some (.int .i64 t488) := (blk_cell BK489.out 1).trans rfl
      have hfz71_0 := blk_frozen BK489.out 0
      have hfz71_1 := blk_frozen BK489.out 1
      go_wp2
      go_ret
      exact ⟨by first | rfl | (simp [errW_none, errW_some] <;> rfl) | (simp [*, errW_none, errW_some] <;> rfl), by repeat (first | (with_reducible first | exact HB.out | apply below_alloc | apply pw_below_drewN | apply below_drew1 | refine below_set ?_ GE489.out | refine below_set ?_ GE492.out) | exact HB.out)⟩
     rw [if_pos c53] at H
     have c53b0 : (t487 == x493000_18 && (t488 == x493001_18)) = true := c53
     (try (have c53b1 : decide (t487 = x493000_18 && (t488 == x493001_18)) = true := by simpa using c53))
     (try (have c53b2 : (t487 == x493000_18 && (t488 == x493001_18)) = true := by simpa using c53))
     clear c53
     by_cases c54 : t483 = true
     ·
      subst c54
      have H1 : (some false) = some r := by rw [if_pos rfl] at H; exact H
      clear H
      have H := H1
      clear H1
      obtain rfl := Option.some.inj H
      have hnb55 := NB492_489.out
      have hnc55 := NB489_492.out
      have hcz56_0 : wc.cell? ⟨gb492, 0, none⟩ = some (.int .i64 x493000_18) := (blk_cell BK492.out 0).trans rfl
      have hcz56_1 : wc.cell? ⟨gb492, 1, none⟩ = some (.int .i64 x493001_18) := (blk_cell BK492.out 1).trans rfl
      have hfz56_0 := blk_frozen BK492.out 0
      have hfz56_1 := blk_frozen BK492.out 1
      have hcz57_0 : wc.cell? ⟨gb489, 0, none⟩ = some (.int .i64 t487) := (blk_cell BK489.out 0).trans rfl
      have hcz57_1 : wc.cell? ⟨gb489, 1, none⟩ = some (.int .i64 t488) := (blk_cell BK489.out 1).trans rfl
      have hfz57_0 := blk_frozen BK489.out 0
      have hfz57_1 := blk_frozen BK489.out 1
      go_wp2
      go_ret
      exact ⟨by first | rfl | (simp [errW_none, errW_some] <;> rfl) | (simp [*, errW_none, errW_some] <;> rfl), by repeat (first | (with_reducible first | exact HB.out | apply below_alloc | apply pw_below_drewN | apply below_drew1 | refine below_set ?_ GE489.out | refine below_set ?_ GE492.out) | exact HB.out)⟩
     replace c54 := Bool.eq_false_iff.mpr c54
     subst c54
     have H1 : (if (t484.length : Int) = 0 then ((posthouselaw6_matched.f kj18).bind fun t501 => (some t501)) else (some false)) = some r := by rw [if_neg (show ¬ (false = true) by decide)] at H; exact H
     clear H
     have H := H1
     clear H1
     by_cases c58 : (t484.length : Int) = 0
     rotate_left
     ·
      rw [if_neg c58] at H
      have c58b0 : ((t484.length : Int) == 0) = false := beq_eq_false_iff_ne.mpr c58
      have c58b1 : ((t484.length : Int) != 0) = true := bne_iff_ne.mpr c58
      have c58b2 : ¬ (t484 = []) := fun h_ => c58 (by rw [h_]; rfl)
      obtain rfl := Option.some.inj H
      have hnb65 := NB492_489.out
      have hnc65 := NB489_492.out
      have hcz66_0 : wc.cell? ⟨gb492, 0, none⟩ = some (.int .i64 x493000_18) := (blk_cell BK492.out 0).trans rfl
      have hcz66_1 : wc.cell? ⟨gb492, 1, none⟩ = some (.int .i64 x493001_18) := (blk_cell BK492.out 1).trans rfl
      have hfz66_0 := blk_frozen BK492.out 0
      have hfz66_1 := blk_frozen BK492.out 1
      have hcz67_0 : wc.cell? ⟨gb489, 0, none⟩ = some (.int .i64 t487) := (blk_cell BK489.out 0).trans rfl
      have hcz67_1 : wc.cell? ⟨gb489, 1, none⟩ = some (.int .i64 t488) := (blk_cell BK489.out 1).trans rfl
      have hfz67_0 := blk_frozen BK489.out 0
      have hfz67_1 := blk_frozen BK489.out 1
      obtain ⟨Ao68, co68, eo68⟩ := Kd.R_slice HO_8.out
      subst eo68
      go_wp2
      go_ret
      exact ⟨by first | rfl | (simp [errW_none, errW_some] <;> rfl) | (simp [*, errW_none, errW_some] <;> rfl), by repeat (first | (with_reducible first | exact HB.out | apply below_alloc | apply pw_below_drewN | apply below_drew1 | refine below_set ?_ GE489.out | refine below_set ?_ GE492.out) | exact HB.out)⟩
     rw [if_pos c58] at H
     have c58b0 : ((t484.length : Int) == 0) = true := beq_iff_eq.mpr c58
     have c58b1 : ((t484.length : Int) != 0) = false := bne_eq_false_iff_eq.mpr c58
     clear c58
     replace H := Option.bind_eq_some_iff.mp H
     obtain ⟨t501, A590, H⟩ := H
     replace H : (some t501) = some r := H
     have A59 := Aside0.mk A590
     clear A590
     obtain rfl := Option.some.inj H
     have hnb60 := NB492_489.out
     have hnc60 := NB489_492.out
     have hcz61_0 : wc.cell? ⟨gb492, 0, none⟩ = some (.int .i64 x493000_18) := (blk_cell BK492.out 0).trans rfl
     have hcz61_1 : wc.cell? ⟨gb492, 1, none⟩ = some (.int .i64 x493001_18) := (blk_cell BK492.out 1).trans rfl
     have hfz61_0 := blk_frozen BK492.out 0
     have hfz61_1 := blk_frozen BK492.out 1
     have hcz62_0 : wc.cell? ⟨gb489, 0, none⟩ = some (.int .i64 t487) := (blk_cell BK489.out 0).trans rfl
     have hcz62_1 : wc.cell? ⟨gb489, 1, none⟩ = some (.int .i64 t488) := (blk_cell BK489.out 1).trans rfl
     have hfz62_0 := blk_frozen BK489.out 0
     have hfz62_1 := blk_frozen BK489.out 1
     obtain ⟨Ao63, co63, eo63⟩ := Kd.R_slice HO_8.out
     subst eo63
     go_wp2_with (first | (go_at_call 18; (with_reducible refine (posthouselaw6_matched.calls kj18  t501 _ A59.out).mono ?_); rintro e w64 ⟨rfl, hb⟩; have n0_ := Aside0.mk (Kd.R_below (by (with_reducible repeat (first | apply Kd.R_alloc | apply Kd.R_drewN | apply Kd.R_drew)); exact HO_8.out) hb); have n1_ := Aside0.mk (blk_below (g := gb489) (o := .cells #[.int .i64 t487, .int .i64 t488] 27 (0, 0)) (by (with_reducible repeat (first | refine blk_drewN ?_ _ | refine blk_drew ?_ | refine blk_alloc ?_ _)); exact BK489.out) hb); have n2_ := Aside0.mk (blk_below (g := gb492) (o := .cells #[.int .i64 x493000_18, .int .i64 x493001_18] 27 (0, 0)) (by (with_reducible repeat (first | refine blk_drewN ?_ _ | refine blk_drew ?_ | refine blk_alloc ?_ _)); exact BK492.out) hb); have n3_ := Aside0.mk (below_step (by repeat (first | (with_reducible first | exact HB.out | apply below_alloc | apply pw_below_drewN | apply below_drew1 | refine below_set ?_ GE489.out | refine below_set ?_ GE492.out) | exact HB.out)) hb); clear HO_8; clear BK489; clear BK492; clear HB; have HO_8 := n0_; have BK489 := n1_; have BK492 := n2_; have HB := n3_; clear n0_ n1_ n2_ n3_; (try clear hb); (try clear hb2); (try clear hk); (try clear hi)))
     go_ret
     exact ⟨by first | rfl | (simp [errW_none, errW_some] <;> rfl) | (simp [*, errW_none, errW_some] <;> rfl), by repeat (first | (with_reducible first | exact HB.out | apply below_alloc | apply pw_below_drewN | apply below_drew1 | refine below_set ?_ GE489.out | refine below_set ?_ GE492.out) | exact HB.out)⟩

/-- THE ONE PURE STATEMENT of posthouselaw6_PatternsMatchSpec: yours. -/
def posthouselaw6_PatternsMatchSpec.Pure : Prop := ∀ (a0 : Int) (a1 : ByteArray) (a2 : ByteArray), (Lit.int .i64 a0).wf = true → a1.size ≤ 140737488351232 → a2.size ≤ 140737488351232 → ∃ k, posthouselaw6_PatternsMatchSpec.f k a0 a1 a2 = some true
theorem posthouselaw6_PatternsMatchSpec.walk (P : posthouselaw6_PatternsMatchSpec.Pure) (a0 : Int) (a1 : ByteArray) (a2 : ByteArray) (w : World) (w0 : (Lit.int .i64 a0).wf = true) (w1 : a1.size ≤ 140737488351232) (w2 : a2.size ≤ 140737488351232) :
  Calls Try.prog 6 #[.int .i64 a0, .string a1, .string a2] w fun e w' => e = .returned (.bool true) ∧ Below w.heap.size w w' := by
 obtain ⟨k, h⟩ := P a0 a1 a2 w0 w1 w2
 refine (posthouselaw6_PatternsMatchSpec.calls k a0 a1 a2 true w h).mono ?_
 rintro e w' ⟨rfl, hd⟩
 exact ⟨rfl, hd⟩

end Go.Proofs.Ytdnacfnmaieeiaa.Print
