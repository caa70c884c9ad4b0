import Derived.Test.YtdnacfnmaieeiaaFposthouselaw6PatternsMatchSpec
import Derived.Test.YtdnacfnmaieeiaaArgs
namespace Go.Proofs.Ytdnacfnmaieeiaa.Print
open Go.RowKit Go.Proofs.YtdnacfnmaieeiaaW.PrintWords Go.Proofs.YtdnacfnmaieeiaaO.Opn
def posthouselaw6_PatternsMatchSpec.Want : Prop := ∀ (x0 : Int) (x1 : ByteArray) (x2 : ByteArray), BInt .i64 x0 → BStr x1 → BStr x2 → ∃ k, posthouselaw6_PatternsMatchSpec.f k x0 x1 x2 = some true
end Go.Proofs.Ytdnacfnmaieeiaa.Print
