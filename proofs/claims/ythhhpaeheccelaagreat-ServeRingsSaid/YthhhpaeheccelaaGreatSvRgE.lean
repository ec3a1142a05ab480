/- ServeRings: the runs with 4 lists of 4 words, 4 lists of 5 words. -/
import Derived.Test.YthhhpaeheccelaaGreatSvRing
import Derived.KernelRfl
set_option maxRecDepth 100000
namespace Go.Proofs.YthhhpaeheccelaaGreat
open Go.AE
theorem ring_4_4 : (ringTree 4 4).ok (ringEv (4 * 4)) (baseFacts 4 4) = true := by kernel_rfl
theorem ring_5_4 : (ringTree 5 4).ok (ringEv (5 * 4)) (baseFacts 5 4) = true := by kernel_rfl
end Go.Proofs.YthhhpaeheccelaaGreat
