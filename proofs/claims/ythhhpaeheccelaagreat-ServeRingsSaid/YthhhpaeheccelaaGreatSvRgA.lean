/- ServeRings: the runs with 0 lists of 0 words, 0 lists of 1 words, 0 lists of 2 words, 0 lists of 3 words, 0 lists of 4 words, 0 lists of 5 words, 5 lists of 0 words, 5 lists of 1 words, 5 lists of 2 words, 5 lists of 3 words, 5 lists of 4 words, 5 lists of 5 words. -/
import Derived.Test.YthhhpaeheccelaaGreatSvRing
import Derived.KernelRfl
set_option maxRecDepth 100000
namespace Go.Proofs.YthhhpaeheccelaaGreat
open Go.AE
theorem ring_0_0 : (ringTree 0 0).ok (ringEv (0 * 0)) (baseFacts 0 0) = true := by kernel_rfl
theorem ring_1_0 : (ringTree 1 0).ok (ringEv (1 * 0)) (baseFacts 1 0) = true := by kernel_rfl
theorem ring_2_0 : (ringTree 2 0).ok (ringEv (2 * 0)) (baseFacts 2 0) = true := by kernel_rfl
theorem ring_3_0 : (ringTree 3 0).ok (ringEv (3 * 0)) (baseFacts 3 0) = true := by kernel_rfl
theorem ring_4_0 : (ringTree 4 0).ok (ringEv (4 * 0)) (baseFacts 4 0) = true := by kernel_rfl
theorem ring_5_0 : (ringTree 5 0).ok (ringEv (5 * 0)) (baseFacts 5 0) = true := by kernel_rfl
theorem ring_0_5 : (ringTree 0 5).ok (ringEv (0 * 5)) (baseFacts 0 5) = true := by kernel_rfl
theorem ring_1_5 : (ringTree 1 5).ok (ringEv (1 * 5)) (baseFacts 1 5) = true := by kernel_rfl
theorem ring_2_5 : (ringTree 2 5).ok (ringEv (2 * 5)) (baseFacts 2 5) = true := by kernel_rfl
theorem ring_3_5 : (ringTree 3 5).ok (ringEv (3 * 5)) (baseFacts 3 5) = true := by kernel_rfl
theorem ring_4_5 : (ringTree 4 5).ok (ringEv (4 * 5)) (baseFacts 4 5) = true := by kernel_rfl
theorem ring_5_5 : (ringTree 5 5).ok (ringEv (5 * 5)) (baseFacts 5 5) = true := by kernel_rfl
end Go.Proofs.YthhhpaeheccelaaGreat
