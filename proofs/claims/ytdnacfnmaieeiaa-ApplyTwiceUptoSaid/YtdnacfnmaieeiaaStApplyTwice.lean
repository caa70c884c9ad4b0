import Derived.Test.YtdnacfnmaieeiaaFposthouselaw6ApplyTwice
import Derived.Test.YtdnacfnmaieeiaaArgs
namespace Go.Proofs.Ytdnacfnmaieeiaa.Print
open Go.RowKit Go.Proofs.YtdnacfnmaieeiaaW.PrintWords Go.Proofs.YtdnacfnmaieeiaaO.Opn
def posthouselaw6_ApplyTwice.Pure : Prop := ∀ (x0 : List S35), BSlice 32 B35 x0 → ZSlice Z35 x0 ≤ 1048576 → ∃ k, posthouselaw6_ApplyTwice.f k x0 = some true
end Go.Proofs.Ytdnacfnmaieeiaa.Print
