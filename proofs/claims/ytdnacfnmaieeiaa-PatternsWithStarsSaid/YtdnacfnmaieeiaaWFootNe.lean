-- Printed by the kit's print (its words), cut down by a program of this session: what no text of the claim names is left out.
import Derived.Test.YtdnacfnmaieeiaaWN
namespace Go.Proofs.YtdnacfnmaieeiaaW.PrintWords
open Go.RowKit
namespace Kd
section
variable {α : Type} {d : Kd α} {W : World} {g n : Nat} {S ok : Nat → Prop} {A : Option Addr} {ad : Addr} {xs : List α}
end
end Kd
end Go.Proofs.YtdnacfnmaieeiaaW.PrintWords
