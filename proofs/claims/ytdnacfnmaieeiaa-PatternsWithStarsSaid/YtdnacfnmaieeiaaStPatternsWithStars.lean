import Derived.Test.YtdnacfnmaieeiaaFposthouselaw6PatternsWithStars
import Derived.Test.YtdnacfnmaieeiaaArgs
namespace Go.Proofs.Ytdnacfnmaieeiaa.Print
open Go.RowKit Go.Proofs.YtdnacfnmaieeiaaW.PrintWords Go.Proofs.YtdnacfnmaieeiaaO.Opn
def posthouselaw6_PatternsWithStars.Want : Prop := ∀ (x0 : ByteArray) (x1 : ByteArray), BStr x0 → BStr x1 → ∃ k, posthouselaw6_PatternsWithStars.f k x0 x1 = some true
end Go.Proofs.Ytdnacfnmaieeiaa.Print
