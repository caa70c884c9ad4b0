import Derived.Test.YtdnacfnmaieeiaaStApplyFilesOnce
import Derived.Test.YtdnacfnmaieeiaaPureApplyMore
set_option linter.unusedSimpArgs false
set_option linter.unusedVariables false
namespace Go.Proofs.Ytdnacfnmaieeiaa.Print
open Go.RowKit Go.Proofs.YtdnacfnmaieeiaaW.PrintWords Go.Proofs.YtdnacfnmaieeiaaO.Opn Go.Proofs.YtdnacfnmaieeiaaO.Kit
theorem posthouselaw6_ApplyFilesOnce.pure : posthouselaw6_ApplyFilesOnce.Pure := by
  intro l _
  refine Ev.rounds ?_
  unfold posthouselaw6_ApplyFilesOnce.f
  refine Ev.bind (effects_ev l) ?_
  have hA := applied_ev
  by_cases h300 : (l.length : Int) ≤ 300
  · rcases effects_cases l h300 with ⟨c, j, hc, h1, h2⟩ | ⟨s', h1, h2, h3, h4⟩
    · rw [h1]
      exact ev_neg hc (Ev.bind hA (Ev.now _))
    · have hl := effects_len l
      rw [h1] at hl ⊢
      refine ev_pos rfl ?_
      show Ev (fun n => posthouselaw6_ApplyFilesOnce.l0 n l 0 s'.b s'.a s'.r s'.p s'.f) true
      have hb : s'.b.length ≤ 300 := hl.1
      have k1 : ∀ (n i : Nat), i + n = l.length → Ev (fun k => posthouselaw6_ApplyFilesOnce.l1 k l i s'.b s'.a s'.r s'.p s'.f) true := by
        intro n
        induction n with
        | zero =>
          intro i hi
          refine ev_succ ?_
          simp only [posthouselaw6_ApplyFilesOnce.l1]
          exact ev_neg (by omega) (Ev.bind hA (Ev.now _))
        | succ n ih =>
          intro i hi
          have hlt : i < l.length := by omega
          have hd := List.drop_eq_getElem_cons hlt
          have hx : rd_T35 l i = l[i] := getD_drop (i := (i : Int).toNat) hd
          refine ev_succ ?_
          simp only [posthouselaw6_ApplyFilesOnce.l1, hx, w1 (show (0 : Int) ≤ i by omega) (show (i : Int) < 9223372036854775807 by omega)]
          refine ev_pos (by omega) (ev_pos (by omega) ?_)
          have hn := ih (i + 1) (by omega)
          refine ev_ite (fun hk => Ev.bind (has_ev _ _ (by omega)) (ev_pos ?_ hn)) (fun _ => hn)
          obtain ⟨_, ha⟩ := h3 l[i] (List.getElem_mem hlt)
          rw [hasT_iff]
          rcases ha with ⟨c, _⟩ | ⟨_, h⟩ | c | ⟨c, _⟩ | ⟨c, _⟩ | ⟨c, _⟩ | ⟨c, _⟩
          · omega
          · exact h
          all_goals omega
      have k0 : ∀ (n i : Nat), i + n = s'.b.length → Ev (fun k => posthouselaw6_ApplyFilesOnce.l0 k l i s'.b s'.a s'.r s'.p s'.f) true := by
        intro n
        induction n with
        | zero =>
          intro i hi
          refine ev_succ ?_
          simp only [posthouselaw6_ApplyFilesOnce.l0]
          exact ev_neg (by omega) (k1 l.length 0 (by omega))
        | succ n ih =>
          intro i hi
          have hlt : i < s'.b.length := by omega
          have hd := List.drop_eq_getElem_cons hlt
          refine ev_succ ?_
          simp only [posthouselaw6_ApplyFilesOnce.l0, rdOf_drop (d := ByteArray.empty) (i := (i : Int)) hd, w1 (show (0 : Int) ≤ i by omega) (show (i : Int) < 9223372036854775807 by omega)]
          refine ev_pos (by omega) (ev_pos (by omega) (ev_pos (by omega) ?_))
          refine Ev.bind (has_ev _ _ (by simp; omega)) (ev_neg ?_ (ih (i + 1) (by omega)))
          rw [hasT_iff]
          intro hm
          rw [Int.toNat_natCast] at hm
          have := h4
          rw [← List.take_append_drop i s'.b, hd, List.nodup_append] at this
          exact this.2.2 _ hm _ List.mem_cons_self rfl
      exact k0 s'.b.length 0 (by omega)
  · have h1 : (effects l).2.2.2.2.2.1 = 2 := by
      unfold effects
      rw [if_pos (by omega)]
      rfl
    exact ev_neg (by rw [h1]; decide) (Ev.bind hA (Ev.now _))
end Go.Proofs.Ytdnacfnmaieeiaa.Print
