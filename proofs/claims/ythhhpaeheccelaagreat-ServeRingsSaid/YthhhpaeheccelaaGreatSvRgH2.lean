/- ServeRings: the runs with one list of 2 words. -/
import Derived.Test.YthhhpaeheccelaaGreatSvHeavyX
import Derived.KernelRfl
set_option maxRecDepth 100000
set_option maxHeartbeats 0
namespace Go.Proofs.YthhhpaeheccelaaGreat
open Go.AE
theorem ring_2_1 : (ringTree 2 1).ok (ringEv1 (2 * 1)) (baseFacts 2 1) = true := by kernel_rfl
end Go.Proofs.YthhhpaeheccelaaGreat
