/- The argument types of the laws: what their values' cells read as. -/
import Derived.Test.YtdnacfnmaieeiaaKinds
import Derived.Test.YtdnacfnmaieeiaaOpens
namespace Go.Proofs.Ytdnacfnmaieeiaa.Print
open Go.RowKit Go.Proofs.YtdnacfnmaieeiaaW.PrintWords Go.Proofs.YtdnacfnmaieeiaaO.Opn
theorem o3 : Opens Try.prog 3 (Kd.int .i64) (BInt .i64) ZInt := opens_int Try.underlying3
theorem o9 : Opens Try.prog 9 Kd.string BStr ZStr := opens_str Try.underlying9
def B35 : S35 → Prop := BIso (fun x : S35 => (x.f0, x.f1, x.f2)) (BPair (BInt .i64) (BPair BStr (BInt .i64)))
def Z35 : S35 → Nat := ZIso (fun x : S35 => (x.f0, x.f1, x.f2)) (ZPair ZInt (ZPair ZStr ZInt))
theorem o35 : Opens Try.prog 35 k35 B35 Z35 := opens_struct (fun y => (⟨y.1, y.2.1, y.2.2⟩ : S35)) (fun _ => rfl) Try.underlying35 rfl (by kernel_rfl) (by kernel_rfl) (fun n => (row_cons (o3 n) (row_cons (o9 n) (row_one (o3 n)))))
theorem o22 : Opens Try.prog 22 (Kd.slice 35 k35) (BSlice 32 B35) (ZSlice Z35) := opens_slice Try.underlying22 (by kernel_rfl) (by kernel_rfl) z35 o35
theorem arr_of_list {cs : Array Value} {l : List Value} (h : (Value.agg cs).cells.toList = l) : cs = ⟨l⟩ := by
  cases cs
  simpa [Value.cells] using h
end Go.Proofs.Ytdnacfnmaieeiaa.Print
