/- ServeRings: the runs with 4 lists of 0 words, 4 lists of 1 words, 4 lists of 2 words, 4 lists of 3 words. -/
import Derived.Test.YthhhpaeheccelaaGreatSvRing
import Derived.KernelRfl
set_option maxRecDepth 100000
namespace Go.Proofs.YthhhpaeheccelaaGreat
open Go.AE
theorem ring_0_4 : (ringTree 0 4).ok (ringEv (0 * 4)) (baseFacts 0 4) = true := by kernel_rfl
theorem ring_1_4 : (ringTree 1 4).ok (ringEv (1 * 4)) (baseFacts 1 4) = true := by kernel_rfl
theorem ring_2_4 : (ringTree 2 4).ok (ringEv (2 * 4)) (baseFacts 2 4) = true := by kernel_rfl
theorem ring_3_4 : (ringTree 3 4).ok (ringEv (3 * 4)) (baseFacts 3 4) = true := by kernel_rfl
end Go.Proofs.YthhhpaeheccelaaGreat
