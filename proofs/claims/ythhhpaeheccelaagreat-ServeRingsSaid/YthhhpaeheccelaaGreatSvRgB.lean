/- ServeRings: the runs with 2 lists of 0 words, 2 lists of 1 words, 2 lists of 2 words, 2 lists of 3 words, 2 lists of 4 words, 2 lists of 5 words. -/
import Derived.Test.YthhhpaeheccelaaGreatSvRing
import Derived.KernelRfl
set_option maxRecDepth 100000
namespace Go.Proofs.YthhhpaeheccelaaGreat
open Go.AE
theorem ring_0_2 : (ringTree 0 2).ok (ringEv (0 * 2)) (baseFacts 0 2) = true := by kernel_rfl
theorem ring_1_2 : (ringTree 1 2).ok (ringEv (1 * 2)) (baseFacts 1 2) = true := by kernel_rfl
theorem ring_2_2 : (ringTree 2 2).ok (ringEv (2 * 2)) (baseFacts 2 2) = true := by kernel_rfl
theorem ring_3_2 : (ringTree 3 2).ok (ringEv (3 * 2)) (baseFacts 3 2) = true := by kernel_rfl
theorem ring_4_2 : (ringTree 4 2).ok (ringEv (4 * 2)) (baseFacts 4 2) = true := by kernel_rfl
theorem ring_5_2 : (ringTree 5 2).ok (ringEv (5 * 2)) (baseFacts 5 2) = true := by kernel_rfl
end Go.Proofs.YthhhpaeheccelaaGreat
