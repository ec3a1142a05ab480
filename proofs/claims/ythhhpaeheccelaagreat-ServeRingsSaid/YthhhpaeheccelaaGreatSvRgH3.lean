/- ServeRings: the runs with one list of 3 words. -/
import Derived.Test.YthhhpaeheccelaaGreatSvHeavyX
import Derived.KernelRfl
set_option maxRecDepth 100000
set_option maxHeartbeats 0
namespace Go.Proofs.YthhhpaeheccelaaGreat
open Go.AE
theorem ring_3_1 : (ringTree 3 1).ok (ringEv1 (3 * 1)) (baseFacts 3 1) = true := by kernel_rfl
end Go.Proofs.YthhhpaeheccelaaGreat
