/- ServeRings: the runs with one list of 0 words. -/
import Derived.Test.YthhhpaeheccelaaGreatSvHeavyX
import Derived.KernelRfl
set_option maxRecDepth 100000
set_option maxHeartbeats 0
namespace Go.Proofs.YthhhpaeheccelaaGreat
open Go.AE
theorem ring_0_1 : (ringTree 0 1).ok (ringEv1 (0 * 1)) (baseFacts 0 1) = true := by kernel_rfl
end Go.Proofs.YthhhpaeheccelaaGreat
