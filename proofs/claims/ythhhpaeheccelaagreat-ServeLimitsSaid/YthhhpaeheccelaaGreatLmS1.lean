/- The state of the law behind its first four pieces: the server is made. -/
import Derived.Test.YthhhpaeheccelaaGreatLmBody
import Derived.KernelRfl
set_option linter.unusedVariables false
set_option maxRecDepth 100000
namespace Go.Proofs.YthhhpaeheccelaaGreat
open Go.AE Go.RowKit
noncomputable def s1L : List (Nat × ABlk) := [(0, .row true 0 [(.opq 0, 0), (.int .i64 0, 0)]),
  (31, .row true 0 [(.int .i64 4, 0), (.int .i64 6, 0), (.int .i64 8, 0), (.int .i64 3, 0)]),
  (33, .row true 0 [(.int .i64 3, 0), (.int .i64 5, 0), (.int .i64 5, 0), (.int .i64 (-2), 0), (.int .i64 (-3), 0), (.int .i64 3, 0), (.int .i64 (-1), 0), (.int .i64 (-3), 0), (.int .i64 (-6), 0), (.int .i64 3, 0), (.int .i64 7, 0), (.int .i64 7, 0), (.int .i64 (-7), 0), (.int .i64 7, 0), (.int .i64 (-3), 0), (.int .i64 (-2), 0), (.int .i64 (-3), 0), (.int .i64 (-4), 0), (.int .i64 (-7), 0), (.int .i64 5, 0), (.int .i64 7, 0), (.int .i64 (-4), 0), (.int .i64 (-3), 0), (.int .i64 (-2), 0), (.int .i64 8, 0), (.int .i64 5, 0), (.int .i64 6, 0), (.int .i64 7, 0), (.int .i64 (-8), 0), (.int .i64 (-7), 0), (.int .i64 (-8), 0), (.int .i64 7, 0)]),
  (35, .row true 0 [(.int .i64 0, 0), (.int .i64 2, 0), (.int .i64 2, 0), (.int .i64 8, 0), (.int .i64 (-8), 0), (.int .i64 4, 0), (.int .i64 3, 0), (.int .i64 0, 0), (.int .i64 (-2), 0), (.int .i64 (-2), 0), (.int .i64 (-4), 0), (.int .i64 7, 0), (.int .i64 (-8), 0), (.int .i64 8, 0), (.int .i64 (-4), 0), (.int .i64 (-8), 0)]),
  (37, .row true 0 [(.int .i64 8, 0), (.int .i64 3, 0), (.int .i64 0, 0), (.int .i64 (-2), 0), (.int .i64 7, 0), (.int .i64 (-2), 0), (.int .i64 7, 0), (.int .i64 (-1), 0), (.int .i64 (-5), 0), (.int .i64 (-4), 0), (.int .i64 3, 0), (.int .i64 8, 0), (.int .i64 (-6), 0), (.int .i64 (-1), 0), (.int .i64 0, 0), (.int .i64 5, 0), (.int .i64 (-5), 0), (.int .i64 (-6), 0), (.int .i64 8, 0), (.int .i64 (-6), 0), (.int .i64 (-2), 0), (.int .i64 (-2), 0), (.int .i64 (-2), 0), (.int .i64 2, 0), (.int .i64 (-3), 0), (.int .i64 (-3), 0), (.int .i64 2, 0), (.int .i64 (-8), 0), (.int .i64 (-1), 0), (.int .i64 6, 0), (.int .i64 3, 0), (.int .i64 7, 0), (.int .i64 0, 0), (.int .i64 (-5), 0), (.int .i64 4, 0), (.int .i64 3, 0), (.int .i64 (-6), 0), (.int .i64 8, 0), (.int .i64 3, 0), (.int .i64 0, 0), (.int .i64 (-8), 0), (.int .i64 (-6), 0), (.int .i64 (-3), 0), (.int .i64 (-4), 0), (.int .i64 (-3), 0), (.int .i64 0, 0), (.int .i64 (-6), 0), (.int .i64 (-6), 0)]),
  (39, .row true 0 [(.int .i64 5, 0), (.int .i64 (-1), 0), (.int .i64 2, 0), (.int .i64 (-3), 0), (.int .i64 3, 0), (.int .i64 (-3), 0), (.int .i64 5, 0), (.int .i64 (-6), 0), (.int .i64 (-7), 0), (.int .i64 0, 0), (.int .i64 1, 0), (.int .i64 (-3), 0), (.int .i64 (-8), 0), (.int .i64 5, 0), (.int .i64 (-5), 0), (.int .i64 (-6), 0), (.int .i64 3, 0), (.int .i64 (-5), 0), (.int .i64 6, 0), (.int .i64 (-6), 0), (.int .i64 8, 0), (.int .i64 (-3), 0), (.int .i64 (-8), 0), (.int .i64 (-8), 0), (.int .i64 6, 0), (.int .i64 (-2), 0), (.int .i64 (-3), 0), (.int .i64 4, 0), (.int .i64 6, 0), (.int .i64 2, 0), (.int .i64 (-7), 0), (.int .i64 (-2), 0)]),
  (41, .row true 0 [(.int .i64 64, 0), (.int .i64 32, 0), (.int .i64 16, 0), (.int .i64 8, 0), (.int .i64 4, 0), (.int .i64 2, 0), (.int .i64 1, 0)]),
  (43, .row true 0 [(.int .i64 32, 0), (.int .i64 16, 0), (.int .i64 8, 0), (.int .i64 4, 0), (.int .i64 2, 0), (.int .i64 1, 0)]),
  (44, .map [] 0),
  (45, .row true 0 [(.int .i64 0, 0), (.nilSl, 0), (.int .i64 0, 0), (.int .i64 0, 0), (.int .i64 0, 0), (.nilSl, 0), (.int .i64 0, 0), (.int .i64 0, 0), (.int .i64 0, 0), (.nilSl, 0), (.int .i64 0, 0), (.int .i64 0, 0), (.int .i64 0, 0), (.nilSl, 0), (.int .i64 0, 0), (.int .i64 0, 0)]),
  (46, .row true 0 [(.int .i64 1, 0), (.int .i64 8, 0), (.int .i64 4, 0), (.int .i64 8, 0), (.sl 31 0 0 4 4 false 1, 0), (.sl 33 0 0 32 32 false 1, 0), (.sl 35 0 0 16 16 false 1, 0), (.sl 37 0 0 48 48 false 1, 0), (.sl 39 0 0 32 32 false 1, 0), (.sl 41 0 0 7 7 false 1, 0), (.sl 43 0 0 6 6 false 1, 0), (.int .i64 4, 0), (.int .i64 4, 0), (.int .i64 1, 0), (.int .i64 4, 0), (.int .i64 8, 0), (.int .i64 0, 0), (.map 44, 0), (.sl 45 0 0 4 4 true 4, 0), (.sl 226 0 0 28 28 false 1, 0), (.int .i64 0, 0), (.int .i64 28, 0), (.bool false, 0)]),
  (226, .row true 0 [(.int .u8 119, 0), (.int .u8 102, 0), (.int .u8 108, 0), (.int .u8 1, 0), (.int .u8 114, 0), (.int .u8 231, 0), (.int .u8 42, 0), (.int .u8 72, 0), (.int .u8 4, 0), (.int .u8 0, 0), (.int .u8 0, 0), (.int .u8 0, 0), (.int .u8 4, 0), (.int .u8 0, 0), (.int .u8 0, 0), (.int .u8 0, 0), (.int .u8 1, 0), (.int .u8 0, 0), (.int .u8 0, 0), (.int .u8 0, 0), (.int .u8 4, 0), (.int .u8 0, 0), (.int .u8 0, 0), (.int .u8 0, 0), (.int .u8 154, 0), (.int .u8 53, 0), (.int .u8 113, 0), (.int .u8 57, 0)])]
noncomputable def t1L : List (Nat × AV) := [(0, .opq 0),
  (2, .bool false),
  (3, .ptr 0 0 0),
  (4, .ptr 46 0 0),
  (5, .int .i64 0),
  (12, .opq 0),
  (13, .agg [.opq 0, .int .i64 0]),
  (14, .ptr 0 0 0),
  (15, .tup [.ptr 46 0 0, .int .i64 0]),
  (16, .agg [.int .i64 1, .int .i64 8, .int .i64 4, .int .i64 8, .sl 5 0 0 4 4 true 1, .sl 7 0 0 32 32 true 1, .sl 8 0 0 16 16 true 1, .sl 9 0 0 48 48 true 1, .sl 10 0 0 32 32 true 1, .sl 11 0 0 7 7 true 1, .sl 12 0 0 6 6 true 1]),
  (17, .agg [.int .i64 4, .int .i64 4, .int .i64 1, .int .i64 4]),
  (18, .tup [.ptr 46 0 0, .int .i64 0]),
  (19, .ptr 46 0 0),
  (20, .int .i64 0),
  (21, .bool true),
  (22, .bool false),
  (23, .bool false),
  (24, .int .i64 0),
  (25, .bool false),
  (26, .bool false)]
noncomputable def stOK (n : Nat) (gn : List (Nat × Nat)) (tab : List (Nat × Sy)) (L : List (Nat × ABlk)) (T : List (Nat × AV)) (x : Option (Ts × AHeap)) : Bool :=
  match x with
  | some (ts, A) => wkH n gn tab A L && Nat.beq ts.n 100 && wkT n gn tab ts ⟨100, mkT T⟩ 100
  | none => false
noncomputable def evq (F : List Fact) (q : Bool) : ACall := evCall ((envOf Tryz.prog).know F) (extL q) 400
set_option maxHeartbeats 0 in
theorem s1_run : stOK 233 [(226, 5)] [] s1L t1L (evList ((envOf Tryz.prog).know []) (evq [] false) 400 pre1 (Ts.ofArgs [.opq 0] 100) A0) = true := by kernel_rfl
end Go.Proofs.YthhhpaeheccelaaGreat
