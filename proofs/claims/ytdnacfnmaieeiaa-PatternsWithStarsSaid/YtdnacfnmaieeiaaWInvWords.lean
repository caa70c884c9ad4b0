-- Printed by the kit's print (its words), cut down by a program of this session: what no text of the claim names is left out.
import Derived.Test.YtdnacfnmaieeiaaWInv
import Derived.Test.YtdnacfnmaieeiaaWFootNe
namespace Go.Proofs.YtdnacfnmaieeiaaW.PrintWords
open Go.RowKit
end Go.Proofs.YtdnacfnmaieeiaaW.PrintWords
namespace Go.Proofs.YtdnacfnmaieeiaaW.PrintLast
section
variable {ops : Array Oper} {a : Act} {o og : Oper} {g : Nat} {t : Tmp} {u : Bool}
end
end Go.Proofs.YtdnacfnmaieeiaaW.PrintLast
