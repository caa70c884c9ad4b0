-- Printed by the kit's print (its words), cut down by a program of this session: what no text of the claim names is left out.
import Derived.Test.YtdnacfnmaieeiaaWTab
namespace Go.Proofs.YtdnacfnmaieeiaaW.PrintLast
section
variable {P : Program} {ops : Array Oper} {Q : Exit → Act → World → Prop} {md : Region.Mode} {S : World → Prop} {ds : List Nat} {T : Bool × List (List Nat × List Nat)}
end
end Go.Proofs.YtdnacfnmaieeiaaW.PrintLast
