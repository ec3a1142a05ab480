/- ServeRings: the runs with 3 lists of 0 words, 3 lists of 1 words, 3 lists of 2 words, 3 lists of 3 words, 3 lists of 4 words, 3 lists of 5 words. -/
import Derived.Test.YthhhpaeheccelaaGreatSvRing
import Derived.KernelRfl
set_option maxRecDepth 100000
namespace Go.Proofs.YthhhpaeheccelaaGreat
open Go.AE
theorem ring_0_3 : (ringTree 0 3).ok (ringEv (0 * 3)) (baseFacts 0 3) = true := by kernel_rfl
theorem ring_1_3 : (ringTree 1 3).ok (ringEv (1 * 3)) (baseFacts 1 3) = true := by kernel_rfl
theorem ring_2_3 : (ringTree 2 3).ok (ringEv (2 * 3)) (baseFacts 2 3) = true := by kernel_rfl
theorem ring_3_3 : (ringTree 3 3).ok (ringEv (3 * 3)) (baseFacts 3 3) = true := by kernel_rfl
theorem ring_4_3 : (ringTree 4 3).ok (ringEv (4 * 3)) (baseFacts 4 3) = true := by kernel_rfl
theorem ring_5_3 : (ringTree 5 3).ok (ringEv (5 * 3)) (baseFacts 5 3) = true := by kernel_rfl
end Go.Proofs.YthhhpaeheccelaaGreat
