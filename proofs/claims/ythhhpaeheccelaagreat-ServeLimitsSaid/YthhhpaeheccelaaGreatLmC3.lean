/- The law's loop for the seed 3, until the request has ended. -/
import Derived.Test.YthhhpaeheccelaaGreatLmChain
set_option linter.unusedVariables false
set_option maxRecDepth 100000
namespace Go.Proofs.YthhhpaeheccelaaGreat
open Go.AE Go.RowKit
noncomputable def c3xB : List (Nat × AV) := [(0, .opq 0), (2, .bool false), (3, .ptr 0 0 0), (4, .ptr 46 0 0), (5, .int .i64 0), (6, .ptr 234 0 0), (7, .ptr 236 0 0), (12, .opq 0), (13, .agg [.opq 0, .int .i64 0]), (14, .ptr 0 0 0), (15, .tup [.ptr 46 0 0, .int .i64 0]), (16, .agg [.int .i64 1, .int .i64 8, .int .i64 4, .int .i64 8, .sl 5 0 0 4 4 true 1, .sl 7 0 0 32 32 true 1, .sl 8 0 0 16 16 true 1, .sl 9 0 0 48 48 true 1, .sl 10 0 0 32 32 true 1, .sl 11 0 0 7 7 true 1, .sl 12 0 0 6 6 true 1]), (17, .agg [.int .i64 4, .int .i64 4, .int .i64 1, .int .i64 4]), (18, .tup [.ptr 46 0 0, .int .i64 0]), (19, .ptr 46 0 0), (20, .int .i64 0), (21, .bool true), (22, .bool false), (23, .bool false), (24, .int .i64 0), (25, .bool false), (26, .bool false), (27, .sl 233 0 0 2 2 true 1), (28, .ptr 0 0 0), (29, .sym .i64 (.var 2005)), (30, .ptr 0 0 0), (31, .sym .i64 (.md 1 9)), (32, .agg [.int .i64 5, .int .i64 1000000, .sl 233 0 0 2 2 true 1, .sym .i64 (.var 2005), .int .i64 3]), (33, .sl 235 0 0 1 1 true 1), (34, .agg [.int .i64 6, .int .i64 1000000, .sl 235 0 0 1 1 true 1, .int .i64 1, .int .i64 0]), (35, .ptr 46 0 0), (36, .agg [.int .i64 5, .int .i64 1000000, .sl 233 0 0 2 2 true 1, .sym .i64 (.var 2005), .int .i64 3]), (37, .int .i64 0), (38, .bool false)]
noncomputable def c3x0T : List (Nat × AV) := [(39, .int .i64 0)] ++ c3xB
noncomputable def c3x0C : List (AV × Nat) := [(.int .i64 1, 0), (.int .i64 8, 0), (.int .i64 4, 0), (.int .i64 8, 0), (.sl 31 0 0 4 4 false 1, 0), (.sl 33 0 0 32 32 false 1, 0), (.sl 35 0 0 16 16 false 1, 0), (.sl 37 0 0 48 48 false 1, 0), (.sl 39 0 0 32 32 false 1, 0), (.sl 41 0 0 7 7 false 1, 0), (.sl 43 0 0 6 6 false 1, 0), (.int .i64 4, 0), (.int .i64 4, 0), (.int .i64 1, 0), (.int .i64 4, 0), (.int .i64 8, 0), (.int .i64 0, 0), (.map 44, 0), (.sl 45 0 0 4 4 true 4, 0), (.nilSl, 1), (.int .i64 1, 0), (.int .i64 28, 0), (.bool false, 0)]
noncomputable def c3x0L : List (Nat × ABlk) := [(0, .row true 0 [(.opq 0, 0), (.sym .i64 (.var 1002), 0)]),
    (44, .map [(.int .i64 5, .ptr 245 0 0, 0)] 1),
    (45, .row true 0 [(.int .i64 0, 0), (.nilSl, 0), (.int .i64 0, 0), (.int .i64 0, 0), (.int .i64 0, 0), (.nilSl, 0), (.int .i64 0, 0), (.int .i64 0, 0), (.int .i64 0, 0), (.nilSl, 0), (.int .i64 0, 0), (.int .i64 0, 0), (.int .i64 0, 0), (.nilSl, 0), (.int .i64 0, 0), (.int .i64 0, 0)]),
    (235, .row true 0 [(.int .i64 1, 0)]),
    (236, .row true 0 [(.int .i64 6, 0), (.int .i64 1000000, 0), (.sl 235 0 0 1 1 true 1, 0), (.int .i64 1, 0), (.int .i64 0, 0)]),
    (242, .row true 0 [(.int .i64 1, 0), (.int .i64 2, 0)]),
    (244, .row true 0 [(.int .i64 1, 0), (.int .i64 2, 0)]),
    (245, .row true 0 [(.int .i64 5, 0), (.int .i64 1000000, 0), (.sl 242 0 0 2 2 false 1, 0), (.sym .i64 (.var 2005), 0), (.int .i64 3, 0), (.sl 244 0 0 2 2 false 1, 0), (.int .i64 0, 0), (.nilSl, 0), (.int .i64 0, 0), (.bool false, 0), (.int .i64 0, 0), (.int .i64 0, 0), (.bool false, 0), (.bool false, 0)]),
    (226, .row true 0 [])] ++ mdlL
noncomputable def c3x1T : List (Nat × AV) := [(39, .int .i64 1), (40, .bool true), (41, .ptr 46 0 0), (42, .int .i64 0), (43, .bool false), (44, .int .i64 1)] ++ c3xB
noncomputable def c3x1C : List (AV × Nat) := [(.int .i64 1, 0), (.int .i64 8, 0), (.int .i64 4, 0), (.int .i64 8, 0), (.sl 31 0 0 4 4 false 1, 0), (.sl 33 0 0 32 32 false 1, 0), (.sl 35 0 0 16 16 false 1, 0), (.sl 37 0 0 48 48 false 1, 0), (.sl 39 0 0 32 32 false 1, 0), (.sl 41 0 0 7 7 false 1, 0), (.sl 43 0 0 6 6 false 1, 0), (.int .i64 4, 0), (.int .i64 4, 0), (.int .i64 1, 0), (.int .i64 4, 0), (.int .i64 8, 0), (.int .i64 1, 0), (.map 44, 0), (.sl 45 0 0 4 4 true 4, 0), (.nilSl, 1), (.int .i64 2, 0), (.int .i64 28, 0), (.bool false, 0)]
noncomputable def c3x1L : List (Nat × ABlk) := [(0, .row true 0 [(.opq 0, 0), (.sym .i64 (.var 1002), 0)]),
    (44, .map [(.int .i64 5, .ptr 245 0 0, 0)] 1),
    (45, .row true 0 [(.int .i64 0, 0), (.sl 257 0 0 2 2 false 1, 0), (.int .i64 1, 0), (.int .i64 1, 0), (.int .i64 0, 0), (.nilSl, 0), (.int .i64 0, 0), (.int .i64 0, 0), (.int .i64 0, 0), (.nilSl, 0), (.int .i64 0, 0), (.int .i64 0, 0), (.int .i64 0, 0), (.nilSl, 0), (.int .i64 0, 0), (.int .i64 0, 0)]),
    (235, .row true 0 [(.int .i64 1, 0)]),
    (236, .row true 0 [(.int .i64 6, 0), (.int .i64 1000000, 0), (.sl 235 0 0 1 1 true 1, 0), (.int .i64 1, 0), (.int .i64 0, 0)]),
    (242, .row true 0 [(.int .i64 1, 0), (.int .i64 2, 0)]),
    (244, .row true 0 [(.int .i64 1, 0), (.int .i64 2, 0)]),
    (245, .row true 0 [(.int .i64 5, 0), (.int .i64 1000000, 0), (.sl 242 0 0 2 2 false 1, 0), (.sym .i64 (.var 2005), 0), (.int .i64 3, 0), (.sl 244 0 0 2 2 false 1, 0), (.int .i64 0, 0), (.sl 255 0 0 1 1 false 1, 0), (.int .i64 2, 0), (.bool false, 0), (.int .i64 0, 0), (.int .i64 0, 0), (.bool true, 0), (.bool false, 0)]),
    (255, .row true 0 [(.int .i64 0, 0)]),
    (257, .row true 0 [(.int .i64 1, 0), (.int .i64 2, 0)]),
    (226, .row true 0 [])] ++ mdlL
noncomputable def c3x2T : List (Nat × AV) := [(39, .int .i64 2), (40, .bool true), (41, .ptr 46 0 0), (42, .int .i64 0), (43, .bool false), (44, .int .i64 2)] ++ c3xB
noncomputable def c3x2C : List (AV × Nat) := [(.int .i64 1, 0), (.int .i64 8, 0), (.int .i64 4, 0), (.int .i64 8, 0), (.sl 31 0 0 4 4 false 1, 0), (.sl 33 0 0 32 32 false 1, 0), (.sl 35 0 0 16 16 false 1, 0), (.sl 37 0 0 48 48 false 1, 0), (.sl 39 0 0 32 32 false 1, 0), (.sl 41 0 0 7 7 false 1, 0), (.sl 43 0 0 6 6 false 1, 0), (.int .i64 4, 0), (.int .i64 4, 0), (.int .i64 1, 0), (.int .i64 4, 0), (.int .i64 8, 0), (.int .i64 2, 0), (.map 44, 0), (.sl 45 0 0 4 4 true 4, 0), (.nilSl, 1), (.int .i64 3, 0), (.int .i64 28, 0), (.bool false, 0)]
noncomputable def c3x2L : List (Nat × ABlk) := [(0, .row true 0 [(.opq 0, 0), (.sym .i64 (.var 1002), 0)]),
    (44, .map [(.int .i64 5, .ptr 245 0 0, 0)] 1),
    (45, .row true 0 [(.int .i64 0, 0), (.sl 257 0 0 2 2 false 1, 0), (.int .i64 1, 0), (.int .i64 1, 0), (.int .i64 0, 0), (.nilSl, 0), (.int .i64 0, 0), (.int .i64 0, 0), (.int .i64 0, 0), (.nilSl, 0), (.int .i64 0, 0), (.int .i64 0, 0), (.int .i64 0, 0), (.nilSl, 0), (.int .i64 0, 0), (.int .i64 0, 0)]),
    (235, .row true 0 [(.int .i64 1, 0)]),
    (236, .row true 0 [(.int .i64 6, 0), (.int .i64 1000000, 0), (.sl 235 0 0 1 1 true 1, 0), (.int .i64 1, 0), (.int .i64 0, 0)]),
    (242, .row true 0 [(.int .i64 1, 0), (.int .i64 2, 0)]),
    (244, .row true 0 [(.int .i64 1, 0), (.int .i64 2, 0), (.int .i64 1, 0)]),
    (245, .row true 0 [(.int .i64 5, 0), (.int .i64 1000000, 0), (.sl 242 0 0 2 2 false 1, 0), (.sym .i64 (.var 2005), 0), (.int .i64 3, 0), (.sl 244 0 0 3 3 false 1, 0), (.int .i64 1, 0), (.sl 255 0 0 1 1 false 1, 0), (.int .i64 2, 0), (.bool false, 0), (.int .i64 0, 0), (.int .i64 0, 0), (.bool true, 0), (.bool false, 0)]),
    (255, .row true 0 [(.int .i64 0, 0)]),
    (257, .row true 0 [(.int .i64 1, 0), (.int .i64 2, 0)]),
    (226, .row true 0 [])] ++ mdlL
noncomputable def c3x3T : List (Nat × AV) := [(39, .int .i64 3), (40, .bool true), (41, .ptr 46 0 0), (42, .int .i64 0), (43, .bool false), (44, .int .i64 3)] ++ c3xB
noncomputable def c3x3C : List (AV × Nat) := [(.int .i64 1, 0), (.int .i64 8, 0), (.int .i64 4, 0), (.int .i64 8, 0), (.sl 31 0 0 4 4 false 1, 0), (.sl 33 0 0 32 32 false 1, 0), (.sl 35 0 0 16 16 false 1, 0), (.sl 37 0 0 48 48 false 1, 0), (.sl 39 0 0 32 32 false 1, 0), (.sl 41 0 0 7 7 false 1, 0), (.sl 43 0 0 6 6 false 1, 0), (.int .i64 4, 0), (.int .i64 4, 0), (.int .i64 1, 0), (.int .i64 4, 0), (.int .i64 8, 0), (.int .i64 3, 0), (.map 44, 0), (.sl 45 0 0 4 4 true 4, 0), (.nilSl, 1), (.int .i64 4, 0), (.int .i64 28, 0), (.bool false, 0)]
noncomputable def c3x3L : List (Nat × ABlk) := [(0, .row true 0 [(.opq 0, 0), (.sym .i64 (.var 1002), 0)]),
    (44, .map [(.int .i64 5, .ptr 245 0 0, 0)] 1),
    (45, .row true 0 [(.int .i64 0, 0), (.sl 257 0 0 3 3 false 1, 0), (.int .i64 1, 0), (.int .i64 3, 0), (.int .i64 0, 0), (.nilSl, 0), (.int .i64 0, 0), (.int .i64 0, 0), (.int .i64 0, 0), (.nilSl, 0), (.int .i64 0, 0), (.int .i64 0, 0), (.int .i64 0, 0), (.nilSl, 0), (.int .i64 0, 0), (.int .i64 0, 0)]),
    (235, .row true 0 [(.int .i64 1, 0)]),
    (236, .row true 0 [(.int .i64 6, 0), (.int .i64 1000000, 0), (.sl 235 0 0 1 1 true 1, 0), (.int .i64 1, 0), (.int .i64 0, 0)]),
    (242, .row true 0 [(.int .i64 1, 0), (.int .i64 2, 0)]),
    (244, .row true 0 [(.int .i64 1, 0), (.int .i64 2, 0), (.int .i64 1, 0)]),
    (245, .row true 0 [(.int .i64 5, 0), (.int .i64 1000000, 0), (.sl 242 0 0 2 2 false 1, 0), (.sym .i64 (.var 2005), 0), (.int .i64 3, 0), (.sl 244 0 0 3 3 false 1, 0), (.int .i64 1, 0), (.sl 255 0 0 1 1 false 1, 0), (.int .i64 3, 0), (.bool false, 0), (.int .i64 0, 0), (.int .i64 0, 0), (.bool true, 0), (.bool false, 0)]),
    (255, .row true 0 [(.int .i64 0, 0)]),
    (257, .row true 0 [(.int .i64 1, 0), (.int .i64 2, 0), (.int .i64 1, 0)]),
    (226, .row true 0 [])] ++ mdlL
noncomputable def c3x4T : List (Nat × AV) := [(39, .int .i64 4), (40, .bool true), (41, .ptr 46 0 0), (42, .int .i64 0), (43, .bool false), (44, .int .i64 4)] ++ c3xB
noncomputable def c3x4C : List (AV × Nat) := [(.int .i64 1, 0), (.int .i64 8, 0), (.int .i64 4, 0), (.int .i64 8, 0), (.sl 31 0 0 4 4 false 1, 0), (.sl 33 0 0 32 32 false 1, 0), (.sl 35 0 0 16 16 false 1, 0), (.sl 37 0 0 48 48 false 1, 0), (.sl 39 0 0 32 32 false 1, 0), (.sl 41 0 0 7 7 false 1, 0), (.sl 43 0 0 6 6 false 1, 0), (.int .i64 4, 0), (.int .i64 4, 0), (.int .i64 1, 0), (.int .i64 4, 0), (.int .i64 8, 0), (.int .i64 4, 0), (.map 44, 0), (.sl 45 0 0 4 4 true 4, 0), (.nilSl, 1), (.int .i64 5, 0), (.int .i64 28, 0), (.bool false, 0)]
noncomputable def c3x4L : List (Nat × ABlk) := [(0, .row true 0 [(.opq 0, 0), (.sym .i64 (.var 1002), 0)]),
    (44, .map [(.int .i64 5, .ptr 245 0 0, 0)] 1),
    (45, .row true 0 [(.int .i64 0, 0), (.sl 257 0 0 3 3 false 1, 0), (.int .i64 1, 0), (.int .i64 3, 0), (.int .i64 0, 0), (.nilSl, 0), (.int .i64 0, 0), (.int .i64 0, 0), (.int .i64 0, 0), (.nilSl, 0), (.int .i64 0, 0), (.int .i64 0, 0), (.int .i64 0, 0), (.nilSl, 0), (.int .i64 0, 0), (.int .i64 0, 0)]),
    (235, .row true 0 [(.int .i64 1, 0)]),
    (236, .row true 0 [(.int .i64 6, 0), (.int .i64 1000000, 0), (.sl 235 0 0 1 1 true 1, 0), (.int .i64 1, 0), (.int .i64 0, 0)]),
    (242, .row true 0 [(.int .i64 1, 0), (.int .i64 2, 0)]),
    (244, .row true 0 [(.int .i64 1, 0), (.int .i64 2, 0), (.int .i64 1, 0), (.int .i64 6, 0)]),
    (245, .row true 0 [(.int .i64 5, 0), (.int .i64 1000000, 0), (.sl 242 0 0 2 2 false 1, 0), (.sym .i64 (.var 2005), 0), (.int .i64 3, 0), (.sl 244 0 0 4 4 false 1, 0), (.int .i64 2, 0), (.sl 255 0 0 1 1 false 1, 0), (.int .i64 3, 0), (.bool false, 0), (.int .i64 0, 0), (.int .i64 0, 0), (.bool true, 0), (.bool false, 0)]),
    (255, .row true 0 [(.int .i64 0, 0)]),
    (257, .row true 0 [(.int .i64 1, 0), (.int .i64 2, 0), (.int .i64 1, 0)]),
    (226, .row true 0 [])] ++ mdlL
noncomputable def c3x5T : List (Nat × AV) := [(39, .int .i64 5), (40, .bool true), (41, .ptr 46 0 0), (42, .int .i64 0), (43, .bool false), (44, .int .i64 5)] ++ c3xB
noncomputable def c3x5C : List (AV × Nat) := [(.int .i64 1, 0), (.int .i64 8, 0), (.int .i64 4, 0), (.int .i64 8, 0), (.sl 31 0 0 4 4 false 1, 0), (.sl 33 0 0 32 32 false 1, 0), (.sl 35 0 0 16 16 false 1, 0), (.sl 37 0 0 48 48 false 1, 0), (.sl 39 0 0 32 32 false 1, 0), (.sl 41 0 0 7 7 false 1, 0), (.sl 43 0 0 6 6 false 1, 0), (.int .i64 4, 0), (.int .i64 4, 0), (.int .i64 1, 0), (.int .i64 4, 0), (.int .i64 8, 0), (.int .i64 5, 0), (.map 44, 0), (.sl 45 0 0 4 4 true 4, 0), (.nilSl, 1), (.int .i64 6, 0), (.int .i64 28, 0), (.bool false, 0)]
noncomputable def c3x5L : List (Nat × ABlk) := [(0, .row true 0 [(.opq 0, 0), (.sym .i64 (.var 1002), 0)]),
    (44, .map [(.int .i64 5, .ptr 245 0 0, 0)] 1),
    (45, .row true 0 [(.int .i64 0, 0), (.sl 257 0 0 4 4 false 1, 0), (.int .i64 1, 0), (.int .i64 5, 0), (.int .i64 0, 0), (.nilSl, 0), (.int .i64 0, 0), (.int .i64 0, 0), (.int .i64 0, 0), (.nilSl, 0), (.int .i64 0, 0), (.int .i64 0, 0), (.int .i64 0, 0), (.nilSl, 0), (.int .i64 0, 0), (.int .i64 0, 0)]),
    (235, .row true 0 [(.int .i64 1, 0)]),
    (236, .row true 0 [(.int .i64 6, 0), (.int .i64 1000000, 0), (.sl 235 0 0 1 1 true 1, 0), (.int .i64 1, 0), (.int .i64 0, 0)]),
    (242, .row true 0 [(.int .i64 1, 0), (.int .i64 2, 0)]),
    (244, .row true 0 [(.int .i64 1, 0), (.int .i64 2, 0), (.int .i64 1, 0), (.int .i64 6, 0)]),
    (245, .row true 0 [(.int .i64 5, 0), (.int .i64 1000000, 0), (.sl 242 0 0 2 2 false 1, 0), (.sym .i64 (.var 2005), 0), (.int .i64 3, 0), (.sl 244 0 0 4 4 false 1, 0), (.int .i64 2, 0), (.sl 255 0 0 1 1 false 1, 0), (.int .i64 4, 0), (.bool false, 0), (.int .i64 0, 0), (.int .i64 0, 0), (.bool true, 0), (.bool false, 0)]),
    (255, .row true 0 [(.int .i64 0, 0)]),
    (257, .row true 0 [(.int .i64 1, 0), (.int .i64 2, 0), (.int .i64 1, 0), (.int .i64 6, 0)]),
    (226, .row true 0 [])] ++ mdlL
noncomputable def c3x6T : List (Nat × AV) := [(39, .int .i64 6), (40, .bool true), (41, .ptr 46 0 0), (42, .int .i64 0), (43, .bool false), (44, .int .i64 6)] ++ c3xB
noncomputable def c3x6C : List (AV × Nat) := [(.int .i64 1, 0), (.int .i64 8, 0), (.int .i64 4, 0), (.int .i64 8, 0), (.sl 31 0 0 4 4 false 1, 0), (.sl 33 0 0 32 32 false 1, 0), (.sl 35 0 0 16 16 false 1, 0), (.sl 37 0 0 48 48 false 1, 0), (.sl 39 0 0 32 32 false 1, 0), (.sl 41 0 0 7 7 false 1, 0), (.sl 43 0 0 6 6 false 1, 0), (.int .i64 4, 0), (.int .i64 4, 0), (.int .i64 1, 0), (.int .i64 4, 0), (.int .i64 8, 0), (.int .i64 6, 0), (.map 44, 0), (.sl 45 0 0 4 4 true 4, 0), (.nilSl, 1), (.int .i64 7, 0), (.int .i64 28, 0), (.bool false, 0)]
noncomputable def c3x6L : List (Nat × ABlk) := [(0, .row true 0 [(.opq 0, 0), (.sym .i64 (.var 1002), 0)]),
    (44, .map [(.int .i64 5, .ptr 245 0 0, 0)] 1),
    (45, .row true 0 [(.int .i64 0, 0), (.sl 257 0 0 4 4 false 1, 0), (.int .i64 1, 0), (.int .i64 5, 0), (.int .i64 0, 0), (.nilSl, 0), (.int .i64 0, 0), (.int .i64 0, 0), (.int .i64 0, 0), (.nilSl, 0), (.int .i64 0, 0), (.int .i64 0, 0), (.int .i64 0, 0), (.nilSl, 0), (.int .i64 0, 0), (.int .i64 0, 0)]),
    (235, .row true 0 [(.int .i64 1, 0)]),
    (236, .row true 0 [(.int .i64 6, 0), (.int .i64 1000000, 0), (.sl 235 0 0 1 1 true 1, 0), (.int .i64 1, 0), (.int .i64 0, 0)]),
    (242, .row true 0 [(.int .i64 1, 0), (.int .i64 2, 0)]),
    (244, .row true 0 [(.int .i64 1, 0), (.int .i64 2, 0), (.int .i64 1, 0), (.int .i64 6, 0), (.int .i64 6, 0)]),
    (245, .row true 0 [(.int .i64 5, 0), (.int .i64 1000000, 0), (.sl 242 0 0 2 2 false 1, 0), (.sym .i64 (.var 2005), 0), (.int .i64 3, 0), (.sl 244 0 0 5 5 false 1, 0), (.int .i64 3, 0), (.sl 255 0 0 1 1 false 1, 0), (.int .i64 4, 0), (.bool false, 0), (.int .i64 0, 0), (.int .i64 0, 0), (.bool true, 0), (.bool false, 0)]),
    (255, .row true 0 [(.int .i64 0, 0)]),
    (257, .row true 0 [(.int .i64 1, 0), (.int .i64 2, 0), (.int .i64 1, 0), (.int .i64 6, 0)]),
    (226, .row true 0 [])] ++ mdlL
noncomputable def c3x7T : List (Nat × AV) := [(39, .int .i64 7), (40, .bool true), (41, .ptr 46 0 0), (42, .int .i64 0), (43, .bool false), (44, .int .i64 7)] ++ c3xB
noncomputable def c3x7C : List (AV × Nat) := [(.int .i64 1, 0), (.int .i64 8, 0), (.int .i64 4, 0), (.int .i64 8, 0), (.sl 31 0 0 4 4 false 1, 0), (.sl 33 0 0 32 32 false 1, 0), (.sl 35 0 0 16 16 false 1, 0), (.sl 37 0 0 48 48 false 1, 0), (.sl 39 0 0 32 32 false 1, 0), (.sl 41 0 0 7 7 false 1, 0), (.sl 43 0 0 6 6 false 1, 0), (.int .i64 4, 0), (.int .i64 4, 0), (.int .i64 1, 0), (.int .i64 4, 0), (.int .i64 8, 0), (.int .i64 7, 0), (.map 44, 0), (.sl 45 0 0 4 4 true 4, 0), (.nilSl, 1), (.int .i64 8, 0), (.int .i64 28, 0), (.bool false, 0)]
noncomputable def c3x7L : List (Nat × ABlk) := [(0, .row true 0 [(.opq 0, 0), (.sym .i64 (.var 1002), 0)]),
    (44, .map [(.int .i64 5, .ptr 245 0 0, 0)] 1),
    (45, .row true 0 [(.int .i64 0, 0), (.sl 257 0 0 4 4 false 1, 0), (.int .i64 1, 0), (.int .i64 5, 0), (.int .i64 4, 0), (.sl 269 0 0 1 1 false 1, 0), (.int .i64 1, 0), (.int .i64 7, 0), (.int .i64 0, 0), (.nilSl, 0), (.int .i64 0, 0), (.int .i64 0, 0), (.int .i64 0, 0), (.nilSl, 0), (.int .i64 0, 0), (.int .i64 0, 0)]),
    (235, .row true 0 [(.int .i64 1, 0)]),
    (236, .row true 0 [(.int .i64 6, 0), (.int .i64 1000000, 0), (.sl 235 0 0 1 1 true 1, 0), (.int .i64 1, 0), (.int .i64 0, 0)]),
    (242, .row true 0 [(.int .i64 1, 0), (.int .i64 2, 0)]),
    (244, .row true 0 [(.int .i64 1, 0), (.int .i64 2, 0), (.int .i64 1, 0), (.int .i64 6, 0), (.int .i64 6, 0)]),
    (245, .row true 0 [(.int .i64 5, 0), (.int .i64 1000000, 0), (.sl 242 0 0 2 2 false 1, 0), (.sym .i64 (.var 2005), 0), (.int .i64 3, 0), (.sl 244 0 0 5 5 false 1, 0), (.int .i64 3, 0), (.sl 255 0 0 2 2 false 1, 0), (.int .i64 5, 0), (.bool false, 0), (.int .i64 0, 0), (.int .i64 0, 0), (.bool true, 0), (.bool false, 0)]),
    (255, .row true 0 [(.int .i64 0, 0), (.int .i64 1, 0)]),
    (257, .row true 0 [(.int .i64 1, 0), (.int .i64 2, 0), (.int .i64 1, 0), (.int .i64 6, 0)]),
    (269, .row true 0 [(.int .i64 6, 0)]),
    (226, .row true 0 [])] ++ mdlL
noncomputable def c3x8T : List (Nat × AV) := [(39, .int .i64 8), (40, .bool true), (41, .ptr 46 0 0), (42, .int .i64 0), (43, .bool false), (44, .int .i64 8)] ++ c3xB
noncomputable def c3x8C : List (AV × Nat) := [(.int .i64 1, 0), (.int .i64 8, 0), (.int .i64 4, 0), (.int .i64 8, 0), (.sl 31 0 0 4 4 false 1, 0), (.sl 33 0 0 32 32 false 1, 0), (.sl 35 0 0 16 16 false 1, 0), (.sl 37 0 0 48 48 false 1, 0), (.sl 39 0 0 32 32 false 1, 0), (.sl 41 0 0 7 7 false 1, 0), (.sl 43 0 0 6 6 false 1, 0), (.int .i64 4, 0), (.int .i64 4, 0), (.int .i64 1, 0), (.int .i64 4, 0), (.int .i64 8, 0), (.int .i64 8, 0), (.map 44, 0), (.sl 45 0 0 4 4 true 4, 0), (.nilSl, 1), (.int .i64 9, 0), (.int .i64 28, 0), (.bool false, 0)]
noncomputable def c3x8L : List (Nat × ABlk) := [(0, .row true 0 [(.opq 0, 0), (.sym .i64 (.var 1002), 0)]),
    (44, .map [(.int .i64 5, .ptr 245 0 0, 0)] 1),
    (45, .row true 0 [(.int .i64 0, 0), (.sl 257 0 0 4 4 false 1, 0), (.int .i64 1, 0), (.int .i64 5, 0), (.int .i64 4, 0), (.sl 269 0 0 1 1 false 1, 0), (.int .i64 1, 0), (.int .i64 7, 0), (.int .i64 0, 0), (.nilSl, 0), (.int .i64 0, 0), (.int .i64 0, 0), (.int .i64 0, 0), (.nilSl, 0), (.int .i64 0, 0), (.int .i64 0, 0)]),
    (235, .row true 0 [(.int .i64 1, 0)]),
    (236, .row true 0 [(.int .i64 6, 0), (.int .i64 1000000, 0), (.sl 235 0 0 1 1 true 1, 0), (.int .i64 1, 0), (.int .i64 0, 0)]),
    (242, .row true 0 [(.int .i64 1, 0), (.int .i64 2, 0)]),
    (244, .row true 0 [(.int .i64 1, 0), (.int .i64 2, 0), (.int .i64 1, 0), (.int .i64 6, 0), (.int .i64 6, 0), (.int .i64 1, 0)]),
    (245, .row true 0 [(.int .i64 5, 0), (.int .i64 1000000, 0), (.sl 242 0 0 2 2 false 1, 0), (.sym .i64 (.var 2005), 0), (.int .i64 3, 0), (.sl 244 0 0 6 6 false 1, 0), (.int .i64 4, 0), (.sl 255 0 0 2 2 false 1, 0), (.int .i64 5, 0), (.bool false, 0), (.int .i64 0, 0), (.int .i64 0, 0), (.bool true, 0), (.bool false, 0)]),
    (255, .row true 0 [(.int .i64 0, 0), (.int .i64 1, 0)]),
    (257, .row true 0 [(.int .i64 1, 0), (.int .i64 2, 0), (.int .i64 1, 0), (.int .i64 6, 0)]),
    (269, .row true 0 [(.int .i64 6, 0)]),
    (226, .row true 0 [])] ++ mdlL
noncomputable def c3x9T : List (Nat × AV) := [(39, .int .i64 9), (40, .bool true), (41, .ptr 46 0 0), (42, .int .i64 0), (43, .bool false), (44, .int .i64 9)] ++ c3xB
noncomputable def c3x9C : List (AV × Nat) := [(.int .i64 1, 0), (.int .i64 8, 0), (.int .i64 4, 0), (.int .i64 8, 0), (.sl 31 0 0 4 4 false 1, 0), (.sl 33 0 0 32 32 false 1, 0), (.sl 35 0 0 16 16 false 1, 0), (.sl 37 0 0 48 48 false 1, 0), (.sl 39 0 0 32 32 false 1, 0), (.sl 41 0 0 7 7 false 1, 0), (.sl 43 0 0 6 6 false 1, 0), (.int .i64 4, 0), (.int .i64 4, 0), (.int .i64 1, 0), (.int .i64 4, 0), (.int .i64 8, 0), (.int .i64 9, 0), (.map 44, 0), (.sl 45 0 0 4 4 true 4, 0), (.nilSl, 1), (.int .i64 10, 0), (.int .i64 28, 0), (.bool false, 0)]
noncomputable def c3x9L : List (Nat × ABlk) := [(0, .row true 0 [(.opq 0, 0), (.sym .i64 (.var 1002), 0)]),
    (44, .map [(.int .i64 5, .ptr 245 0 0, 0)] 1),
    (45, .row true 0 [(.int .i64 0, 0), (.sl 257 0 0 4 4 false 1, 0), (.int .i64 1, 0), (.int .i64 5, 0), (.int .i64 4, 0), (.sl 269 0 0 2 2 false 1, 0), (.int .i64 1, 0), (.int .i64 9, 0), (.int .i64 0, 0), (.nilSl, 0), (.int .i64 0, 0), (.int .i64 0, 0), (.int .i64 0, 0), (.nilSl, 0), (.int .i64 0, 0), (.int .i64 0, 0)]),
    (235, .row true 0 [(.int .i64 1, 0)]),
    (236, .row true 0 [(.int .i64 6, 0), (.int .i64 1000000, 0), (.sl 235 0 0 1 1 true 1, 0), (.int .i64 1, 0), (.int .i64 0, 0)]),
    (242, .row true 0 [(.int .i64 1, 0), (.int .i64 2, 0)]),
    (244, .row true 0 [(.int .i64 1, 0), (.int .i64 2, 0), (.int .i64 1, 0), (.int .i64 6, 0), (.int .i64 6, 0), (.int .i64 1, 0)]),
    (245, .row true 0 [(.int .i64 5, 0), (.int .i64 1000000, 0), (.sl 242 0 0 2 2 false 1, 0), (.sym .i64 (.var 2005), 0), (.int .i64 3, 0), (.sl 244 0 0 6 6 false 1, 0), (.int .i64 4, 0), (.sl 255 0 0 2 2 false 1, 0), (.int .i64 6, 0), (.bool false, 0), (.int .i64 0, 0), (.int .i64 0, 0), (.bool true, 0), (.bool false, 0)]),
    (255, .row true 0 [(.int .i64 0, 0), (.int .i64 1, 0)]),
    (257, .row true 0 [(.int .i64 1, 0), (.int .i64 2, 0), (.int .i64 1, 0), (.int .i64 6, 0)]),
    (269, .row true 0 [(.int .i64 6, 0), (.int .i64 1, 0)]),
    (226, .row true 0 [])] ++ mdlL
noncomputable def c3x10T : List (Nat × AV) := [(39, .int .i64 10), (40, .bool true), (41, .ptr 46 0 0), (42, .int .i64 0), (43, .bool false), (44, .int .i64 10)] ++ c3xB
noncomputable def c3x10C : List (AV × Nat) := [(.int .i64 1, 0), (.int .i64 8, 0), (.int .i64 4, 0), (.int .i64 8, 0), (.sl 31 0 0 4 4 false 1, 0), (.sl 33 0 0 32 32 false 1, 0), (.sl 35 0 0 16 16 false 1, 0), (.sl 37 0 0 48 48 false 1, 0), (.sl 39 0 0 32 32 false 1, 0), (.sl 41 0 0 7 7 false 1, 0), (.sl 43 0 0 6 6 false 1, 0), (.int .i64 4, 0), (.int .i64 4, 0), (.int .i64 1, 0), (.int .i64 4, 0), (.int .i64 8, 0), (.int .i64 10, 0), (.map 44, 0), (.sl 45 0 0 4 4 true 4, 0), (.nilSl, 1), (.int .i64 11, 0), (.int .i64 28, 0), (.bool false, 0)]
noncomputable def c3x10L : List (Nat × ABlk) := [(0, .row true 0 [(.opq 0, 0), (.sym .i64 (.var 1002), 0)]),
    (44, .map [(.int .i64 5, .ptr 245 0 0, 0)] 1),
    (45, .row true 0 [(.int .i64 0, 0), (.sl 257 0 0 4 4 false 1, 0), (.int .i64 1, 0), (.int .i64 5, 0), (.int .i64 4, 0), (.sl 269 0 0 2 2 false 1, 0), (.int .i64 1, 0), (.int .i64 9, 0), (.int .i64 0, 0), (.nilSl, 0), (.int .i64 0, 0), (.int .i64 0, 0), (.int .i64 0, 0), (.nilSl, 0), (.int .i64 0, 0), (.int .i64 0, 0)]),
    (235, .row true 0 [(.int .i64 1, 0)]),
    (236, .row true 0 [(.int .i64 6, 0), (.int .i64 1000000, 0), (.sl 235 0 0 1 1 true 1, 0), (.int .i64 1, 0), (.int .i64 0, 0)]),
    (242, .row true 0 [(.int .i64 1, 0), (.int .i64 2, 0)]),
    (244, .row true 0 [(.int .i64 1, 0), (.int .i64 2, 0), (.int .i64 1, 0), (.int .i64 6, 0), (.int .i64 6, 0), (.int .i64 1, 0), (.int .i64 3, 0)]),
    (245, .row true 0 [(.int .i64 5, 0), (.int .i64 1000000, 0), (.sl 242 0 0 2 2 false 1, 0), (.sym .i64 (.var 2005), 0), (.int .i64 3, 0), (.sl 244 0 0 7 7 false 1, 0), (.int .i64 5, 0), (.sl 255 0 0 2 2 false 1, 0), (.int .i64 6, 0), (.bool false, 0), (.int .i64 0, 0), (.int .i64 0, 0), (.bool true, 0), (.bool false, 0)]),
    (255, .row true 0 [(.int .i64 0, 0), (.int .i64 1, 0)]),
    (257, .row true 0 [(.int .i64 1, 0), (.int .i64 2, 0), (.int .i64 1, 0), (.int .i64 6, 0)]),
    (269, .row true 0 [(.int .i64 6, 0), (.int .i64 1, 0)]),
    (226, .row true 0 [])] ++ mdlL
noncomputable def c3x11T : List (Nat × AV) := [(39, .int .i64 11), (40, .bool true), (41, .ptr 46 0 0), (42, .int .i64 0), (43, .bool false), (44, .int .i64 11)] ++ c3xB
noncomputable def c3x11C : List (AV × Nat) := [(.int .i64 1, 0), (.int .i64 8, 0), (.int .i64 4, 0), (.int .i64 8, 0), (.sl 31 0 0 4 4 false 1, 0), (.sl 33 0 0 32 32 false 1, 0), (.sl 35 0 0 16 16 false 1, 0), (.sl 37 0 0 48 48 false 1, 0), (.sl 39 0 0 32 32 false 1, 0), (.sl 41 0 0 7 7 false 1, 0), (.sl 43 0 0 6 6 false 1, 0), (.int .i64 4, 0), (.int .i64 4, 0), (.int .i64 1, 0), (.int .i64 4, 0), (.int .i64 8, 0), (.int .i64 11, 0), (.map 44, 0), (.sl 45 0 0 4 4 true 4, 0), (.nilSl, 1), (.int .i64 12, 0), (.int .i64 28, 0), (.bool false, 0)]
noncomputable def c3x11L : List (Nat × ABlk) := [(0, .row true 0 [(.opq 0, 0), (.sym .i64 (.var 1002), 0)]),
    (44, .map [(.int .i64 5, .ptr 245 0 0, 0)] 1),
    (45, .row true 0 [(.int .i64 0, 0), (.sl 257 0 0 4 4 false 1, 0), (.int .i64 1, 0), (.int .i64 5, 0), (.int .i64 4, 0), (.sl 269 0 0 3 3 false 1, 0), (.int .i64 1, 0), (.int .i64 11, 0), (.int .i64 0, 0), (.nilSl, 0), (.int .i64 0, 0), (.int .i64 0, 0), (.int .i64 0, 0), (.nilSl, 0), (.int .i64 0, 0), (.int .i64 0, 0)]),
    (235, .row true 0 [(.int .i64 1, 0)]),
    (236, .row true 0 [(.int .i64 6, 0), (.int .i64 1000000, 0), (.sl 235 0 0 1 1 true 1, 0), (.int .i64 1, 0), (.int .i64 0, 0)]),
    (242, .row true 0 [(.int .i64 1, 0), (.int .i64 2, 0)]),
    (244, .row true 0 [(.int .i64 1, 0), (.int .i64 2, 0), (.int .i64 1, 0), (.int .i64 6, 0), (.int .i64 6, 0), (.int .i64 1, 0), (.int .i64 3, 0)]),
    (245, .row true 0 [(.int .i64 5, 0), (.int .i64 1000000, 0), (.sl 242 0 0 2 2 false 1, 0), (.sym .i64 (.var 2005), 0), (.int .i64 3, 0), (.sl 244 0 0 7 7 false 1, 0), (.int .i64 5, 0), (.sl 255 0 0 2 2 false 1, 0), (.int .i64 7, 0), (.bool false, 0), (.int .i64 0, 0), (.int .i64 0, 0), (.bool true, 0), (.bool false, 0)]),
    (255, .row true 0 [(.int .i64 0, 0), (.int .i64 1, 0)]),
    (257, .row true 0 [(.int .i64 1, 0), (.int .i64 2, 0), (.int .i64 1, 0), (.int .i64 6, 0)]),
    (269, .row true 0 [(.int .i64 6, 0), (.int .i64 1, 0), (.int .i64 3, 0)]),
    (226, .row true 0 [])] ++ mdlL
noncomputable def c3x12T : List (Nat × AV) := [(39, .int .i64 12), (40, .bool true), (41, .ptr 46 0 0), (42, .int .i64 0), (43, .bool false), (44, .int .i64 12)] ++ c3xB
noncomputable def c3x12C : List (AV × Nat) := [(.int .i64 1, 0), (.int .i64 8, 0), (.int .i64 4, 0), (.int .i64 8, 0), (.sl 31 0 0 4 4 false 1, 0), (.sl 33 0 0 32 32 false 1, 0), (.sl 35 0 0 16 16 false 1, 0), (.sl 37 0 0 48 48 false 1, 0), (.sl 39 0 0 32 32 false 1, 0), (.sl 41 0 0 7 7 false 1, 0), (.sl 43 0 0 6 6 false 1, 0), (.int .i64 4, 0), (.int .i64 4, 0), (.int .i64 1, 0), (.int .i64 4, 0), (.int .i64 8, 0), (.int .i64 12, 0), (.map 44, 0), (.sl 45 0 0 4 4 true 4, 0), (.nilSl, 1), (.int .i64 13, 0), (.int .i64 28, 0), (.bool false, 0)]
noncomputable def c3x12L : List (Nat × ABlk) := [(0, .row true 0 [(.opq 0, 0), (.sym .i64 (.var 1002), 0)]),
    (44, .map [(.int .i64 5, .ptr 245 0 0, 0)] 1),
    (45, .row true 0 [(.int .i64 0, 0), (.sl 257 0 0 4 4 false 1, 0), (.int .i64 1, 0), (.int .i64 5, 0), (.int .i64 4, 0), (.sl 269 0 0 3 3 false 1, 0), (.int .i64 1, 0), (.int .i64 11, 0), (.int .i64 0, 0), (.nilSl, 0), (.int .i64 0, 0), (.int .i64 0, 0), (.int .i64 0, 0), (.nilSl, 0), (.int .i64 0, 0), (.int .i64 0, 0)]),
    (235, .row true 0 [(.int .i64 1, 0)]),
    (236, .row true 0 [(.int .i64 6, 0), (.int .i64 1000000, 0), (.sl 235 0 0 1 1 true 1, 0), (.int .i64 1, 0), (.int .i64 0, 0)]),
    (242, .row true 0 [(.int .i64 1, 0), (.int .i64 2, 0)]),
    (244, .row true 0 [(.int .i64 1, 0), (.int .i64 2, 0), (.int .i64 1, 0), (.int .i64 6, 0), (.int .i64 6, 0), (.int .i64 1, 0), (.int .i64 3, 0), (.int .i64 6, 0)]),
    (245, .row true 0 [(.int .i64 5, 0), (.int .i64 1000000, 0), (.sl 242 0 0 2 2 false 1, 0), (.sym .i64 (.var 2005), 0), (.int .i64 3, 0), (.sl 244 0 0 8 8 false 1, 0), (.int .i64 6, 0), (.sl 255 0 0 2 2 false 1, 0), (.int .i64 7, 0), (.bool false, 0), (.int .i64 0, 0), (.int .i64 0, 0), (.bool true, 0), (.bool false, 0)]),
    (255, .row true 0 [(.int .i64 0, 0), (.int .i64 1, 0)]),
    (257, .row true 0 [(.int .i64 1, 0), (.int .i64 2, 0), (.int .i64 1, 0), (.int .i64 6, 0)]),
    (269, .row true 0 [(.int .i64 6, 0), (.int .i64 1, 0), (.int .i64 3, 0)]),
    (226, .row true 0 [])] ++ mdlL
noncomputable def c3x13T : List (Nat × AV) := [(39, .int .i64 13), (40, .bool true), (41, .ptr 46 0 0), (42, .int .i64 0), (43, .bool false), (44, .int .i64 13)] ++ c3xB
noncomputable def c3x13C : List (AV × Nat) := [(.int .i64 1, 0), (.int .i64 8, 0), (.int .i64 4, 0), (.int .i64 8, 0), (.sl 31 0 0 4 4 false 1, 0), (.sl 33 0 0 32 32 false 1, 0), (.sl 35 0 0 16 16 false 1, 0), (.sl 37 0 0 48 48 false 1, 0), (.sl 39 0 0 32 32 false 1, 0), (.sl 41 0 0 7 7 false 1, 0), (.sl 43 0 0 6 6 false 1, 0), (.int .i64 4, 0), (.int .i64 4, 0), (.int .i64 1, 0), (.int .i64 4, 0), (.int .i64 8, 0), (.int .i64 13, 0), (.map 44, 0), (.sl 45 0 0 4 4 true 4, 0), (.nilSl, 1), (.int .i64 14, 0), (.int .i64 28, 0), (.bool false, 0)]
noncomputable def c3x13L : List (Nat × ABlk) := [(0, .row true 0 [(.opq 0, 0), (.sym .i64 (.var 1002), 0)]),
    (44, .map [(.int .i64 5, .ptr 245 0 0, 0)] 1),
    (45, .row true 0 [(.int .i64 0, 0), (.sl 257 0 0 4 4 false 1, 0), (.int .i64 1, 0), (.int .i64 5, 0), (.int .i64 4, 0), (.sl 269 0 0 4 4 false 1, 0), (.int .i64 1, 0), (.int .i64 13, 0), (.int .i64 0, 0), (.nilSl, 0), (.int .i64 0, 0), (.int .i64 0, 0), (.int .i64 0, 0), (.nilSl, 0), (.int .i64 0, 0), (.int .i64 0, 0)]),
    (235, .row true 0 [(.int .i64 1, 0)]),
    (236, .row true 0 [(.int .i64 6, 0), (.int .i64 1000000, 0), (.sl 235 0 0 1 1 true 1, 0), (.int .i64 1, 0), (.int .i64 0, 0)]),
    (242, .row true 0 [(.int .i64 1, 0), (.int .i64 2, 0)]),
    (244, .row true 0 [(.int .i64 1, 0), (.int .i64 2, 0), (.int .i64 1, 0), (.int .i64 6, 0), (.int .i64 6, 0), (.int .i64 1, 0), (.int .i64 3, 0), (.int .i64 6, 0)]),
    (245, .row true 0 [(.int .i64 5, 0), (.int .i64 1000000, 0), (.sl 242 0 0 2 2 false 1, 0), (.sym .i64 (.var 2005), 0), (.int .i64 3, 0), (.sl 244 0 0 8 8 false 1, 0), (.int .i64 6, 0), (.sl 255 0 0 2 2 false 1, 0), (.int .i64 8, 0), (.bool false, 0), (.int .i64 0, 0), (.int .i64 0, 0), (.bool true, 0), (.bool false, 0)]),
    (255, .row true 0 [(.int .i64 0, 0), (.int .i64 1, 0)]),
    (257, .row true 0 [(.int .i64 1, 0), (.int .i64 2, 0), (.int .i64 1, 0), (.int .i64 6, 0)]),
    (269, .row true 0 [(.int .i64 6, 0), (.int .i64 1, 0), (.int .i64 3, 0), (.int .i64 6, 0)]),
    (226, .row true 0 [])] ++ mdlL
noncomputable def c3x14T : List (Nat × AV) := [(39, .int .i64 14), (40, .bool true), (41, .ptr 46 0 0), (42, .int .i64 0), (43, .bool false), (44, .int .i64 14)] ++ c3xB
noncomputable def c3x14C : List (AV × Nat) := [(.int .i64 1, 0), (.int .i64 8, 0), (.int .i64 4, 0), (.int .i64 8, 0), (.sl 31 0 0 4 4 false 1, 0), (.sl 33 0 0 32 32 false 1, 0), (.sl 35 0 0 16 16 false 1, 0), (.sl 37 0 0 48 48 false 1, 0), (.sl 39 0 0 32 32 false 1, 0), (.sl 41 0 0 7 7 false 1, 0), (.sl 43 0 0 6 6 false 1, 0), (.int .i64 4, 0), (.int .i64 4, 0), (.int .i64 1, 0), (.int .i64 4, 0), (.int .i64 8, 0), (.int .i64 14, 0), (.map 44, 0), (.sl 45 0 0 4 4 true 4, 0), (.nilSl, 1), (.int .i64 15, 0), (.int .i64 28, 0), (.bool false, 0)]
noncomputable def c3x14L : List (Nat × ABlk) := [(0, .row true 0 [(.opq 0, 0), (.sym .i64 (.var 1002), 0)]),
    (44, .map [(.int .i64 5, .ptr 245 0 0, 0)] 1),
    (45, .row true 0 [(.int .i64 0, 0), (.sl 257 0 0 4 4 false 1, 0), (.int .i64 1, 0), (.int .i64 5, 0), (.int .i64 4, 0), (.sl 269 0 0 4 4 false 1, 0), (.int .i64 1, 0), (.int .i64 13, 0), (.int .i64 0, 0), (.nilSl, 0), (.int .i64 0, 0), (.int .i64 0, 0), (.int .i64 0, 0), (.nilSl, 0), (.int .i64 0, 0), (.int .i64 0, 0)]),
    (235, .row true 0 [(.int .i64 1, 0)]),
    (236, .row true 0 [(.int .i64 6, 0), (.int .i64 1000000, 0), (.sl 235 0 0 1 1 true 1, 0), (.int .i64 1, 0), (.int .i64 0, 0)]),
    (242, .row true 0 [(.int .i64 1, 0), (.int .i64 2, 0)]),
    (244, .row true 0 [(.int .i64 1, 0), (.int .i64 2, 0), (.int .i64 1, 0), (.int .i64 6, 0), (.int .i64 6, 0), (.int .i64 1, 0), (.int .i64 3, 0), (.int .i64 6, 0), (.int .i64 3, 0)]),
    (245, .row true 0 [(.int .i64 5, 0), (.int .i64 1000000, 0), (.sl 242 0 0 2 2 false 1, 0), (.sym .i64 (.var 2005), 0), (.int .i64 3, 0), (.sl 244 0 0 9 9 false 1, 0), (.int .i64 7, 0), (.sl 255 0 0 2 2 false 1, 0), (.int .i64 8, 0), (.bool false, 0), (.int .i64 0, 0), (.int .i64 0, 0), (.bool true, 0), (.bool false, 0)]),
    (255, .row true 0 [(.int .i64 0, 0), (.int .i64 1, 0)]),
    (257, .row true 0 [(.int .i64 1, 0), (.int .i64 2, 0), (.int .i64 1, 0), (.int .i64 6, 0)]),
    (269, .row true 0 [(.int .i64 6, 0), (.int .i64 1, 0), (.int .i64 3, 0), (.int .i64 6, 0)]),
    (226, .row true 0 [])] ++ mdlL
noncomputable def c3x15T : List (Nat × AV) := [(39, .int .i64 15), (40, .bool true), (41, .ptr 46 0 0), (42, .int .i64 0), (43, .bool false), (44, .int .i64 15)] ++ c3xB
noncomputable def c3x15C : List (AV × Nat) := [(.int .i64 1, 0), (.int .i64 8, 0), (.int .i64 4, 0), (.int .i64 8, 0), (.sl 31 0 0 4 4 false 1, 0), (.sl 33 0 0 32 32 false 1, 0), (.sl 35 0 0 16 16 false 1, 0), (.sl 37 0 0 48 48 false 1, 0), (.sl 39 0 0 32 32 false 1, 0), (.sl 41 0 0 7 7 false 1, 0), (.sl 43 0 0 6 6 false 1, 0), (.int .i64 4, 0), (.int .i64 4, 0), (.int .i64 1, 0), (.int .i64 4, 0), (.int .i64 8, 0), (.int .i64 15, 0), (.map 44, 0), (.sl 45 0 0 4 4 true 4, 0), (.nilSl, 1), (.int .i64 16, 0), (.int .i64 28, 0), (.bool false, 0)]
noncomputable def c3x15L : List (Nat × ABlk) := [(0, .row true 0 [(.opq 0, 0), (.sym .i64 (.var 1002), 0)]),
    (44, .map [(.int .i64 5, .ptr 245 0 0, 0)] 1),
    (45, .row true 0 [(.int .i64 0, 0), (.sl 257 0 0 4 4 false 1, 0), (.int .i64 1, 0), (.int .i64 5, 0), (.int .i64 4, 0), (.sl 269 0 0 4 4 false 1, 0), (.int .i64 1, 0), (.int .i64 13, 0), (.int .i64 8, 0), (.sl 282 0 0 1 1 false 1, 0), (.int .i64 1, 0), (.int .i64 15, 0), (.int .i64 0, 0), (.nilSl, 0), (.int .i64 0, 0), (.int .i64 0, 0)]),
    (235, .row true 0 [(.int .i64 1, 0)]),
    (236, .row true 0 [(.int .i64 6, 0), (.int .i64 1000000, 0), (.sl 235 0 0 1 1 true 1, 0), (.int .i64 1, 0), (.int .i64 0, 0)]),
    (242, .row true 0 [(.int .i64 1, 0), (.int .i64 2, 0)]),
    (244, .row true 0 [(.int .i64 1, 0), (.int .i64 2, 0), (.int .i64 1, 0), (.int .i64 6, 0), (.int .i64 6, 0), (.int .i64 1, 0), (.int .i64 3, 0), (.int .i64 6, 0), (.int .i64 3, 0)]),
    (245, .row true 0 [(.int .i64 5, 0), (.int .i64 1000000, 0), (.sl 242 0 0 2 2 false 1, 0), (.sym .i64 (.var 2005), 0), (.int .i64 3, 0), (.sl 244 0 0 9 9 false 1, 0), (.int .i64 7, 0), (.sl 255 0 0 3 3 false 1, 0), (.int .i64 9, 0), (.bool false, 0), (.int .i64 0, 0), (.int .i64 0, 0), (.bool true, 0), (.bool false, 0)]),
    (255, .row true 0 [(.int .i64 0, 0), (.int .i64 1, 0), (.int .i64 2, 0)]),
    (257, .row true 0 [(.int .i64 1, 0), (.int .i64 2, 0), (.int .i64 1, 0), (.int .i64 6, 0)]),
    (269, .row true 0 [(.int .i64 6, 0), (.int .i64 1, 0), (.int .i64 3, 0), (.int .i64 6, 0)]),
    (282, .row true 0 [(.int .i64 3, 0)]),
    (226, .row true 0 [])] ++ mdlL
set_option maxHeartbeats 0 in
theorem pre3_1 : stChk 246 [(226, 1)] [(2005, .lit 1)] c3x0T c3x0C c3x0L (evList (envF 0 3) (evm (envF 0 3) false) 400 pre2 ⟨100, mkT t1L⟩ (mkH s1L 233)) = some 67 := by kernel_rfl
set_option maxHeartbeats 0 in
theorem pre3_2 : stChk 246 [(226, 1)] [(2005, .lit 2)] c3x0T c3x0C c3x0L (evList (envF 1 3) (evm (envF 1 3) false) 400 pre2 ⟨100, mkT t1L⟩ (mkH s1L 233)) = some 67 := by kernel_rfl
set_option maxHeartbeats 0 in
theorem pre3_3 : stChk 246 [(226, 1)] [(2005, .lit 3)] c3x0T c3x0C c3x0L (evList (envF 2 3) (evm (envF 2 3) false) 400 pre2 ⟨100, mkT t1L⟩ (mkH s1L 233)) = some 67 := by kernel_rfl
set_option maxHeartbeats 0 in
theorem pre3_4 : stChk 246 [(226, 1)] [(2005, .lit 4)] c3x0T c3x0C c3x0L (evList (envF 3 3) (evm (envF 3 3) false) 400 pre2 ⟨100, mkT t1L⟩ (mkH s1L 233)) = some 67 := by kernel_rfl
set_option maxHeartbeats 0 in
theorem pre3_5 : stChk 246 [(226, 1)] [(2005, .lit 5)] c3x0T c3x0C c3x0L (evList (envF 4 3) (evm (envF 4 3) false) 400 pre2 ⟨100, mkT t1L⟩ (mkH s1L 233)) = some 67 := by kernel_rfl
set_option maxHeartbeats 0 in
theorem pre3_6 : stChk 246 [(226, 1)] [(2005, .lit 6)] c3x0T c3x0C c3x0L (evList (envF 5 3) (evm (envF 5 3) false) 400 pre2 ⟨100, mkT t1L⟩ (mkH s1L 233)) = some 67 := by kernel_rfl
set_option maxHeartbeats 0 in
theorem pre3_7 : stChk 246 [(226, 1)] [(2005, .lit 7)] c3x0T c3x0C c3x0L (evList (envF 6 3) (evm (envF 6 3) false) 400 pre2 ⟨100, mkT t1L⟩ (mkH s1L 233)) = some 67 := by kernel_rfl
set_option maxHeartbeats 0 in
theorem pre3_8 : stChk 246 [(226, 1)] [(2005, .lit 8)] c3x0T c3x0C c3x0L (evList (envF 7 3) (evm (envF 7 3) false) 400 pre2 ⟨100, mkT t1L⟩ (mkH s1L 233)) = some 67 := by kernel_rfl
set_option maxHeartbeats 0 in
theorem cont3_1 : stChk 258 [(226, 1), (257, 1)] [(2005, .var 2005)] c3x1T c3x1C c3x1L (rdRun [] 67 false c3x0T c3x0C c3x0L 246) = some 78 := by kernel_rfl
set_option maxHeartbeats 0 in
theorem cont3_2 : stChk 258 [(226, 1), (244, 1)] [(2005, .var 2005)] c3x2T c3x2C c3x2L (rdRun [.le (.lit 2) (.var 2005) true] 78 false c3x1T c3x1C c3x1L 258) = some 89 := by kernel_rfl
set_option maxHeartbeats 0 in
theorem cont3_3 : stChk 258 [(226, 1), (257, 1)] [(2005, .var 2005)] c3x3T c3x3C c3x3L (rdRun [] 89 false c3x2T c3x2C c3x2L 258) = some 100 := by kernel_rfl
set_option maxHeartbeats 0 in
theorem cont3_4 : stChk 258 [(226, 1), (244, 1)] [(2005, .var 2005)] c3x4T c3x4C c3x4L (rdRun [.le (.lit 3) (.var 2005) true] 100 false c3x3T c3x3C c3x3L 258) = some 111 := by kernel_rfl
set_option maxHeartbeats 0 in
theorem cont3_5 : stChk 258 [(226, 1), (257, 1)] [(2005, .var 2005)] c3x5T c3x5C c3x5L (rdRun [] 111 false c3x4T c3x4C c3x4L 258) = some 122 := by kernel_rfl
set_option maxHeartbeats 0 in
theorem cont3_6 : stChk 258 [(226, 1), (244, 1)] [(2005, .var 2005)] c3x6T c3x6C c3x6L (rdRun [.le (.lit 4) (.var 2005) true] 122 false c3x5T c3x5C c3x5L 258) = some 133 := by kernel_rfl
set_option maxHeartbeats 0 in
theorem cont3_7 : stChk 270 [(226, 1), (255, 1)] [(2005, .var 2005)] c3x7T c3x7C c3x7L (rdRun [] 133 false c3x6T c3x6C c3x6L 258) = some 144 := by kernel_rfl
set_option maxHeartbeats 0 in
theorem cont3_8 : stChk 270 [(226, 1), (244, 1)] [(2005, .var 2005)] c3x8T c3x8C c3x8L (rdRun [.le (.lit 5) (.var 2005) true] 144 false c3x7T c3x7C c3x7L 270) = some 155 := by kernel_rfl
set_option maxHeartbeats 0 in
theorem cont3_9 : stChk 270 [(226, 1), (269, 1)] [(2005, .var 2005)] c3x9T c3x9C c3x9L (rdRun [] 155 false c3x8T c3x8C c3x8L 270) = some 166 := by kernel_rfl
set_option maxHeartbeats 0 in
theorem cont3_10 : stChk 270 [(226, 1), (244, 1)] [(2005, .var 2005)] c3x10T c3x10C c3x10L (rdRun [.le (.lit 6) (.var 2005) true] 166 false c3x9T c3x9C c3x9L 270) = some 177 := by kernel_rfl
set_option maxHeartbeats 0 in
theorem cont3_11 : stChk 270 [(226, 1), (269, 1)] [(2005, .var 2005)] c3x11T c3x11C c3x11L (rdRun [] 177 false c3x10T c3x10C c3x10L 270) = some 188 := by kernel_rfl
set_option maxHeartbeats 0 in
theorem cont3_12 : stChk 270 [(226, 1), (244, 1)] [(2005, .var 2005)] c3x12T c3x12C c3x12L (rdRun [.le (.lit 7) (.var 2005) true] 188 false c3x11T c3x11C c3x11L 270) = some 199 := by kernel_rfl
set_option maxHeartbeats 0 in
theorem cont3_13 : stChk 270 [(226, 1), (269, 1)] [(2005, .var 2005)] c3x13T c3x13C c3x13L (rdRun [] 199 false c3x12T c3x12C c3x12L 270) = some 210 := by kernel_rfl
set_option maxHeartbeats 0 in
theorem cont3_14 : stChk 270 [(226, 1), (244, 1)] [(2005, .var 2005)] c3x14T c3x14C c3x14L (rdRun [.le (.lit 8) (.var 2005) true] 210 false c3x13T c3x13C c3x13L 270) = some 221 := by kernel_rfl
set_option maxHeartbeats 0 in
theorem cont3_15 : stChk 283 [(226, 1), (255, 1)] [(2005, .var 2005)] c3x15T c3x15C c3x15L (rdRun [] 221 false c3x14T c3x14C c3x14L 270) = some 232 := by kernel_rfl
set_option maxHeartbeats 0 in
theorem end3_1 : stChk 246 [(226, 1), (244, 1)] (tabC 3 89 2) qT qC qL (rdRun [.eq (.var 2005) (.lit 1) true] 78 false c3x1T c3x1C c3x1L 258) = some 89 := by kernel_rfl
set_option maxHeartbeats 0 in
theorem end3_2 : stChk 246 [(226, 1), (244, 1)] (tabC 3 111 4) qT qC qL (rdRun [.eq (.var 2005) (.lit 2) true] 100 false c3x3T c3x3C c3x3L 258) = some 111 := by kernel_rfl
set_option maxHeartbeats 0 in
theorem end3_3 : stChk 246 [(226, 1), (244, 1)] (tabC 3 133 6) qT qC qL (rdRun [.eq (.var 2005) (.lit 3) true] 122 false c3x5T c3x5C c3x5L 258) = some 133 := by kernel_rfl
set_option maxHeartbeats 0 in
theorem end3_4 : stChk 246 [(226, 1), (244, 1)] (tabC 3 155 8) qT qC qL (rdRun [.eq (.var 2005) (.lit 4) true] 144 false c3x7T c3x7C c3x7L 270) = some 155 := by kernel_rfl
set_option maxHeartbeats 0 in
theorem end3_5 : stChk 246 [(226, 1), (244, 1)] (tabC 3 177 10) qT qC qL (rdRun [.eq (.var 2005) (.lit 5) true] 166 false c3x9T c3x9C c3x9L 270) = some 177 := by kernel_rfl
set_option maxHeartbeats 0 in
theorem end3_6 : stChk 246 [(226, 1), (244, 1)] (tabC 3 199 12) qT qC qL (rdRun [.eq (.var 2005) (.lit 6) true] 188 false c3x11T c3x11C c3x11L 270) = some 199 := by kernel_rfl
set_option maxHeartbeats 0 in
theorem end3_7 : stChk 246 [(226, 1), (244, 1)] (tabC 3 221 14) qT qC qL (rdRun [.eq (.var 2005) (.lit 7) true] 210 false c3x13T c3x13C c3x13L 270) = some 221 := by kernel_rfl
set_option maxHeartbeats 0 in
theorem end3_8 : stChk 246 [(226, 1), (244, 1)] (tabC 3 243 16) qT qC qL (rdRun [.eq (.var 2005) (.lit 8) true] 232 false c3x15T c3x15C c3x15L 283) = some 243 := by kernel_rfl
theorem chain3 {r : Raw} {w0 : World} {m : Int} {a : Act} {w : World} {Q : Exit → Act → World → Prop} (hm : 1 ≤ m ∧ m ≤ 8) (S0 : SL r w0 c3x0T c3x0C c3x0L 246 67 (rq 0 0 0 0 m 0) a w)
    (hq : ∀ (k N n : Nat) (κ : Int) (a' : Act) (w' : World), k + n = 19999 → k ≤ 16 → N = 67 + 11 * k → 0 ≤ κ → κ ≤ 220045 → SL r w0 qT qC qL 246 N (rq (k : Int) ((k : Int) + 1) κ (k : Int) m 3) a' w' → Code.rounds Tryz.prog lawLoop Q n a' w') : Code.rounds Tryz.prog lawLoop Q 19999 a w := by
  refine step_cont S0 cont3_1 (by decide) (by decide) (.inl rfl) fun a1 w1 S1 => ?_
  by_cases h1 : m = 1
  · subst h1; exact step_end S1 end3_1 (by decide) (by decide) (.inr rfl) fun a' w' S' => hq 2 89 19997 89 a' w' rfl (by decide) rfl (by decide) (by decide) S'
  refine step_cont S1 cont3_2 (by decide) (by decide) (.inr ⟨2, rfl, by omega⟩) fun a2 w2 S2 => ?_
  refine step_cont S2 cont3_3 (by decide) (by decide) (.inl rfl) fun a3 w3 S3 => ?_
  by_cases h2 : m = 2
  · subst h2; exact step_end S3 end3_2 (by decide) (by decide) (.inr rfl) fun a' w' S' => hq 4 111 19995 111 a' w' rfl (by decide) rfl (by decide) (by decide) S'
  refine step_cont S3 cont3_4 (by decide) (by decide) (.inr ⟨3, rfl, by omega⟩) fun a4 w4 S4 => ?_
  refine step_cont S4 cont3_5 (by decide) (by decide) (.inl rfl) fun a5 w5 S5 => ?_
  by_cases h3 : m = 3
  · subst h3; exact step_end S5 end3_3 (by decide) (by decide) (.inr rfl) fun a' w' S' => hq 6 133 19993 133 a' w' rfl (by decide) rfl (by decide) (by decide) S'
  refine step_cont S5 cont3_6 (by decide) (by decide) (.inr ⟨4, rfl, by omega⟩) fun a6 w6 S6 => ?_
  refine step_cont S6 cont3_7 (by decide) (by decide) (.inl rfl) fun a7 w7 S7 => ?_
  by_cases h4 : m = 4
  · subst h4; exact step_end S7 end3_4 (by decide) (by decide) (.inr rfl) fun a' w' S' => hq 8 155 19991 155 a' w' rfl (by decide) rfl (by decide) (by decide) S'
  refine step_cont S7 cont3_8 (by decide) (by decide) (.inr ⟨5, rfl, by omega⟩) fun a8 w8 S8 => ?_
  refine step_cont S8 cont3_9 (by decide) (by decide) (.inl rfl) fun a9 w9 S9 => ?_
  by_cases h5 : m = 5
  · subst h5; exact step_end S9 end3_5 (by decide) (by decide) (.inr rfl) fun a' w' S' => hq 10 177 19989 177 a' w' rfl (by decide) rfl (by decide) (by decide) S'
  refine step_cont S9 cont3_10 (by decide) (by decide) (.inr ⟨6, rfl, by omega⟩) fun a10 w10 S10 => ?_
  refine step_cont S10 cont3_11 (by decide) (by decide) (.inl rfl) fun a11 w11 S11 => ?_
  by_cases h6 : m = 6
  · subst h6; exact step_end S11 end3_6 (by decide) (by decide) (.inr rfl) fun a' w' S' => hq 12 199 19987 199 a' w' rfl (by decide) rfl (by decide) (by decide) S'
  refine step_cont S11 cont3_12 (by decide) (by decide) (.inr ⟨7, rfl, by omega⟩) fun a12 w12 S12 => ?_
  refine step_cont S12 cont3_13 (by decide) (by decide) (.inl rfl) fun a13 w13 S13 => ?_
  by_cases h7 : m = 7
  · subst h7; exact step_end S13 end3_7 (by decide) (by decide) (.inr rfl) fun a' w' S' => hq 14 221 19985 221 a' w' rfl (by decide) rfl (by decide) (by decide) S'
  refine step_cont S13 cont3_14 (by decide) (by decide) (.inr ⟨8, rfl, by omega⟩) fun a14 w14 S14 => ?_
  refine step_cont S14 cont3_15 (by decide) (by decide) (.inl rfl) fun a15 w15 S15 => ?_
  have h8 : m = 8 := by omega
  subst h8; exact step_end S15 end3_8 (by decide) (by decide) (.inr rfl) fun a' w' S' => hq 16 243 19983 243 a' w' rfl (by decide) rfl (by decide) (by decide) S'
end Go.Proofs.YthhhpaeheccelaaGreat
