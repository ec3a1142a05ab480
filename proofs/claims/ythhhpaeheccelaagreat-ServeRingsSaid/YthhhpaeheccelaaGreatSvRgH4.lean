/- ServeRings: the runs with one list of 4 words. -/
import Derived.Test.YthhhpaeheccelaaGreatSvHeavyX
import Derived.KernelRfl
set_option maxRecDepth 100000
set_option maxHeartbeats 0
namespace Go.Proofs.YthhhpaeheccelaaGreat
open Go.AE
theorem ring_4_1 : (ringTree 4 1).ok (ringEv1 (4 * 1)) (baseFacts 4 1) = true := by kernel_rfl
end Go.Proofs.YthhhpaeheccelaaGreat
