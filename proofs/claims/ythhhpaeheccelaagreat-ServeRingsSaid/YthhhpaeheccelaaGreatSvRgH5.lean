/- ServeRings: the runs with one list of 5 words. -/
import Derived.Test.YthhhpaeheccelaaGreatSvHeavyX
import Derived.KernelRfl
set_option maxRecDepth 100000
set_option maxHeartbeats 0
namespace Go.Proofs.YthhhpaeheccelaaGreat
open Go.AE
theorem ring_5_1 : (ringTree 5 1).ok (ringEv1 (5 * 1)) (baseFacts 5 1) = true := by kernel_rfl
end Go.Proofs.YthhhpaeheccelaaGreat
