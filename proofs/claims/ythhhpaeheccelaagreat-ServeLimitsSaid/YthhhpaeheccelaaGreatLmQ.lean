/- The quiet state: the request has ended; a round of the loop leads from it to it. -/
import Derived.Test.YthhhpaeheccelaaGreatLmRound
set_option linter.unusedVariables false
set_option maxRecDepth 100000
namespace Go.Proofs.YthhhpaeheccelaaGreat
open Go.AE Go.RowKit
noncomputable def qT : List (Nat × AV) := [(0, .opq 0), (2, .bool false), (3, .ptr 0 0 0), (4, .ptr 46 0 0), (5, .int .i64 0), (6, .ptr 234 0 0), (7, .ptr 236 0 0), (12, .opq 0), (13, .agg [.opq 0, .int .i64 0]), (14, .ptr 0 0 0), (15, .tup [.ptr 46 0 0, .int .i64 0]), (16, .agg [.int .i64 1, .int .i64 8, .int .i64 4, .int .i64 8, .sl 5 0 0 4 4 true 1, .sl 7 0 0 32 32 true 1, .sl 8 0 0 16 16 true 1, .sl 9 0 0 48 48 true 1, .sl 10 0 0 32 32 true 1, .sl 11 0 0 7 7 true 1, .sl 12 0 0 6 6 true 1]), (17, .agg [.int .i64 4, .int .i64 4, .int .i64 1, .int .i64 4]), (18, .tup [.ptr 46 0 0, .int .i64 0]), (19, .ptr 46 0 0), (20, .int .i64 0), (21, .bool true), (22, .bool false), (23, .bool false), (24, .int .i64 0), (25, .bool false), (26, .bool false), (27, .sl 233 0 0 2 2 true 1), (28, .ptr 0 0 0), (29, .sym .i64 (.var 2005)), (30, .ptr 0 0 0), (31, .sym .i64 (.md 1 9)), (32, .agg [.int .i64 5, .int .i64 1000000, .sl 233 0 0 2 2 true 1, .sym .i64 (.var 2005), .sym .i64 (.var 2006)]), (33, .sl 235 0 0 1 1 true 1), (34, .agg [.int .i64 6, .int .i64 1000000, .sl 235 0 0 1 1 true 1, .int .i64 1, .int .i64 0]), (35, .ptr 46 0 0), (36, .agg [.int .i64 5, .int .i64 1000000, .sl 233 0 0 2 2 true 1, .sym .i64 (.var 2005), .sym .i64 (.var 2006)]), (37, .int .i64 0), (38, .bool false), (39, .sym .i64 (.var 2004)), (40, .bool true), (41, .ptr 46 0 0), (42, .int .i64 0), (43, .bool false), (44, .sym .i64 (.var 2004))]
noncomputable def qC : List (AV × Nat) := [(.nilSl, 1), (.nilSl, 1), (.nilSl, 1), (.nilSl, 1), (.nilSl, 1), (.nilSl, 1), (.nilSl, 1), (.nilSl, 1), (.nilSl, 1), (.nilSl, 1), (.nilSl, 1), (.int .i64 4, 0), (.int .i64 4, 0), (.int .i64 1, 0), (.int .i64 4, 0), (.int .i64 8, 0), (.sym .i64 (.var 2000), 0), (.map 44, 0), (.nilSl, 1), (.nilSl, 1), (.sym .i64 (.var 2001), 0), (.int .i64 28, 0), (.bool false, 0)]
noncomputable def qL : List (Nat × ABlk) := [(0, .row true 0 [(.opq 0, 0), (.sym .i64 (.var 1002), 0)]),
    (44, .map [(.int .i64 5, .ptr 245 0 0, 0)] 1),
    (235, .row true 0 [(.int .i64 1, 0)]),
    (236, .row true 0 [(.int .i64 6, 0), (.int .i64 1000000, 0), (.sl 235 0 0 1 1 true 1, 0), (.int .i64 1, 0), (.int .i64 0, 0)]),
    (245, .row true 0 [(.nilSl, 1), (.nilSl, 1), (.nilSl, 1), (.nilSl, 1), (.nilSl, 1), (.nilSl, 1), (.nilSl, 1), (.nilSl, 1), (.nilSl, 1), (.bool true, 0), (.nilSl, 1), (.sym .i64 (.var 2003), 0), (.nilSl, 1), (.nilSl, 1)]),
    (226, .row true 0 [])] ++ mdlL
noncomputable def tabQ : List (Nat × Sy) := [(2000, .bin .add .i64 (.var 2000) (.lit 1)), (2001, .bin .add .i64 (.var 2001) (.lit 1)), (2003, .var 2003), (2004, .bin .add .i64 (.var 2004) (.lit 1)), (2005, .var 2005), (2006, .var 2006)]
noncomputable def FQ : List Fact := [.le (.lit 19998) (.var 2004) false, .le (.lit 20000) (.var 2001) false, .le (.lit 0) (.var 2003) true]
set_option maxHeartbeats 0 in
theorem quiet_run (N : Nat) : stChk 246 [(226, 1)] tabQ qT qC qL (rdRun FQ N true qT qC qL 246) = some (N + 11) := by kernel_rfl
noncomputable def tabC (sd kept k : Int) : List (Nat × Sy) := [(2000, .lit k), (2001, .lit (k + 1)), (2003, .lit kept), (2004, .lit k), (2005, .var 2005), (2006, .lit sd)]
end Go.Proofs.YthhhpaeheccelaaGreat
