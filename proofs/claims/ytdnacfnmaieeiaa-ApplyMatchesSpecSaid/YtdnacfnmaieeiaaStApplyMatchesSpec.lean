import Derived.Test.YtdnacfnmaieeiaaFposthouselaw6ApplyMatchesSpec
import Derived.Test.YtdnacfnmaieeiaaArgs
namespace Go.Proofs.Ytdnacfnmaieeiaa.Print
open Go.RowKit Go.Proofs.YtdnacfnmaieeiaaW.PrintWords Go.Proofs.YtdnacfnmaieeiaaO.Opn
def posthouselaw6_ApplyMatchesSpec.Pure : Prop := ∀ (x0 : List S35), BSlice 32 B35 x0 → ∃ k, posthouselaw6_ApplyMatchesSpec.f k x0 = some true
end Go.Proofs.Ytdnacfnmaieeiaa.Print
