import Derived.Test.YtdnacfnmaieeiaaKinds
import Derived.Test.YtdnacfnmaieeiaaFpatternssame1
namespace Go.Proofs.Ytdnacfnmaieeiaa.Print
open Go.RowKit Go.Proofs.YtdnacfnmaieeiaaW.PrintWords Go.Proofs.YtdnacfnmaieeiaaW.PrintLast Go.Proofs.YtdnacfnmaieeiaaW.PrintMore
def patterns_same.f (a0 a1 : Int) : Option (Bool) := (patterns_same_1.f a0).bind fun t1 => (patterns_same_1.f a1).bind fun t2 => some (t1 == t2)
theorem patterns_same.calls (a0 : Int) (a1 : Int) (r : Bool) (w : World) (h : patterns_same.f a0 a1 = some r) :
  Calls Try.prog 34 #[.int .u8 a0, .int .u8 a1] w fun e w' => e = .returned (.bool r) ∧ Drawn0 w w' := by
  unfold patterns_same.f at h
  obtain ⟨t1, h1, h2⟩ := Option.bind_eq_some_iff.1 h
  obtain ⟨t2, h3, h4⟩ := Option.bind_eq_some_iff.1 h2
  obtain rfl := Option.some.inj h4
  clear h h2 h4
  have H1 := Aside0.mk h1
  have H3 := Aside0.mk h3
  clear h1 h3
  go_enter Try.func34, Try.ntmps34
  go_wp2_with fail
  refine (patterns_same_1.calls a0 t1 _ H1.out).mono ?_
  rintro e w1 ⟨rfl, ⟨⟨n1, rfl⟩⟩⟩
  go_wp2_with fail
  refine (patterns_same_1.calls a1 t2 _ H3.out).mono ?_
  rintro e w2 ⟨rfl, ⟨⟨n2, rfl⟩⟩⟩
  go_wp2
  go_ret
  exact ⟨rfl, by repeat (first | exact Drawn0.refl _ | apply Drawn0.step)⟩
end Go.Proofs.Ytdnacfnmaieeiaa.Print
