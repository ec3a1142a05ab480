/- The law's loop for the seed 7, until the request has ended. -/
import Derived.Test.YthhhpaeheccelaaGreatLmChain
set_option linter.unusedVariables false
set_option maxRecDepth 100000
namespace Go.Proofs.YthhhpaeheccelaaGreat
open Go.AE Go.RowKit
noncomputable def c7xB : List (Nat × AV) := [(0, .opq 0), (2, .bool false), (3, .ptr 0 0 0), (4, .ptr 46 0 0), (5, .int .i64 0), (6, .ptr 234 0 0), (7, .ptr 236 0 0), (12, .opq 0), (13, .agg [.opq 0, .int .i64 0]), (14, .ptr 0 0 0), (15, .tup [.ptr 46 0 0, .int .i64 0]), (16, .agg [.int .i64 1, .int .i64 8, .int .i64 4, .int .i64 8, .sl 5 0 0 4 4 true 1, .sl 7 0 0 32 32 true 1, .sl 8 0 0 16 16 true 1, .sl 9 0 0 48 48 true 1, .sl 10 0 0 32 32 true 1, .sl 11 0 0 7 7 true 1, .sl 12 0 0 6 6 true 1]), (17, .agg [.int .i64 4, .int .i64 4, .int .i64 1, .int .i64 4]), (18, .tup [.ptr 46 0 0, .int .i64 0]), (19, .ptr 46 0 0), (20, .int .i64 0), (21, .bool true), (22, .bool false), (23, .bool false), (24, .int .i64 0), (25, .bool false), (26, .bool false), (27, .sl 233 0 0 2 2 true 1), (28, .ptr 0 0 0), (29, .sym .i64 (.var 2005)), (30, .ptr 0 0 0), (31, .sym .i64 (.md 1 9)), (32, .agg [.int .i64 5, .int .i64 1000000, .sl 233 0 0 2 2 true 1, .sym .i64 (.var 2005), .int .i64 7]), (33, .sl 235 0 0 1 1 true 1), (34, .agg [.int .i64 6, .int .i64 1000000, .sl 235 0 0 1 1 true 1, .int .i64 1, .int .i64 0]), (35, .ptr 46 0 0), (36, .agg [.int .i64 5, .int .i64 1000000, .sl 233 0 0 2 2 true 1, .sym .i64 (.var 2005), .int .i64 7]), (37, .int .i64 0), (38, .bool false)]
noncomputable def c7x0T : List (Nat × AV) := [(39, .int .i64 0)] ++ c7xB
noncomputable def c7x0C : List (AV × Nat) := [(.int .i64 1, 0), (.int .i64 8, 0), (.int .i64 4, 0), (.int .i64 8, 0), (.sl 31 0 0 4 4 false 1, 0), (.sl 33 0 0 32 32 false 1, 0), (.sl 35 0 0 16 16 false 1, 0), (.sl 37 0 0 48 48 false 1, 0), (.sl 39 0 0 32 32 false 1, 0), (.sl 41 0 0 7 7 false 1, 0), (.sl 43 0 0 6 6 false 1, 0), (.int .i64 4, 0), (.int .i64 4, 0), (.int .i64 1, 0), (.int .i64 4, 0), (.int .i64 8, 0), (.int .i64 0, 0), (.map 44, 0), (.sl 45 0 0 4 4 true 4, 0), (.nilSl, 1), (.int .i64 1, 0), (.int .i64 28, 0), (.bool false, 0)]
noncomputable def c7x0L : List (Nat × ABlk) := [(0, .row true 0 [(.opq 0, 0), (.sym .i64 (.var 1002), 0)]),
    (44, .map [(.int .i64 5, .ptr 245 0 0, 0)] 1),
    (45, .row true 0 [(.int .i64 0, 0), (.nilSl, 0), (.int .i64 0, 0), (.int .i64 0, 0), (.int .i64 0, 0), (.nilSl, 0), (.int .i64 0, 0), (.int .i64 0, 0), (.int .i64 0, 0), (.nilSl, 0), (.int .i64 0, 0), (.int .i64 0, 0), (.int .i64 0, 0), (.nilSl, 0), (.int .i64 0, 0), (.int .i64 0, 0)]),
    (235, .row true 0 [(.int .i64 1, 0)]),
    (236, .row true 0 [(.int .i64 6, 0), (.int .i64 1000000, 0), (.sl 235 0 0 1 1 true 1, 0), (.int .i64 1, 0), (.int .i64 0, 0)]),
    (242, .row true 0 [(.int .i64 1, 0), (.int .i64 2, 0)]),
    (244, .row true 0 [(.int .i64 1, 0), (.int .i64 2, 0)]),
    (245, .row true 0 [(.int .i64 5, 0), (.int .i64 1000000, 0), (.sl 242 0 0 2 2 false 1, 0), (.sym .i64 (.var 2005), 0), (.int .i64 7, 0), (.sl 244 0 0 2 2 false 1, 0), (.int .i64 0, 0), (.nilSl, 0), (.int .i64 0, 0), (.bool false, 0), (.int .i64 0, 0), (.int .i64 0, 0), (.bool false, 0), (.bool false, 0)]),
    (226, .row true 0 [])] ++ mdlL
noncomputable def c7x1T : List (Nat × AV) := [(39, .int .i64 1), (40, .bool true), (41, .ptr 46 0 0), (42, .int .i64 0), (43, .bool false), (44, .int .i64 1)] ++ c7xB
noncomputable def c7x1C : List (AV × Nat) := [(.int .i64 1, 0), (.int .i64 8, 0), (.int .i64 4, 0), (.int .i64 8, 0), (.sl 31 0 0 4 4 false 1, 0), (.sl 33 0 0 32 32 false 1, 0), (.sl 35 0 0 16 16 false 1, 0), (.sl 37 0 0 48 48 false 1, 0), (.sl 39 0 0 32 32 false 1, 0), (.sl 41 0 0 7 7 false 1, 0), (.sl 43 0 0 6 6 false 1, 0), (.int .i64 4, 0), (.int .i64 4, 0), (.int .i64 1, 0), (.int .i64 4, 0), (.int .i64 8, 0), (.int .i64 1, 0), (.map 44, 0), (.sl 45 0 0 4 4 true 4, 0), (.nilSl, 1), (.int .i64 2, 0), (.int .i64 28, 0), (.bool false, 0)]
noncomputable def c7x1L : List (Nat × ABlk) := [(0, .row true 0 [(.opq 0, 0), (.sym .i64 (.var 1002), 0)]),
    (44, .map [(.int .i64 5, .ptr 245 0 0, 0)] 1),
    (45, .row true 0 [(.int .i64 0, 0), (.sl 257 0 0 2 2 false 1, 0), (.int .i64 1, 0), (.int .i64 1, 0), (.int .i64 0, 0), (.nilSl, 0), (.int .i64 0, 0), (.int .i64 0, 0), (.int .i64 0, 0), (.nilSl, 0), (.int .i64 0, 0), (.int .i64 0, 0), (.int .i64 0, 0), (.nilSl, 0), (.int .i64 0, 0), (.int .i64 0, 0)]),
    (235, .row true 0 [(.int .i64 1, 0)]),
    (236, .row true 0 [(.int .i64 6, 0), (.int .i64 1000000, 0), (.sl 235 0 0 1 1 true 1, 0), (.int .i64 1, 0), (.int .i64 0, 0)]),
    (242, .row true 0 [(.int .i64 1, 0), (.int .i64 2, 0)]),
    (244, .row true 0 [(.int .i64 1, 0), (.int .i64 2, 0)]),
    (245, .row true 0 [(.int .i64 5, 0), (.int .i64 1000000, 0), (.sl 242 0 0 2 2 false 1, 0), (.sym .i64 (.var 2005), 0), (.int .i64 7, 0), (.sl 244 0 0 2 2 false 1, 0), (.int .i64 0, 0), (.sl 255 0 0 1 1 false 1, 0), (.int .i64 2, 0), (.bool false, 0), (.int .i64 0, 0), (.int .i64 0, 0), (.bool true, 0), (.bool false, 0)]),
    (255, .row true 0 [(.int .i64 0, 0)]),
    (257, .row true 0 [(.int .i64 1, 0), (.int .i64 2, 0)]),
    (226, .row true 0 [])] ++ mdlL
noncomputable def c7x2T : List (Nat × AV) := [(39, .int .i64 2), (40, .bool true), (41, .ptr 46 0 0), (42, .int .i64 0), (43, .bool false), (44, .int .i64 2)] ++ c7xB
noncomputable def c7x2C : List (AV × Nat) := [(.int .i64 1, 0), (.int .i64 8, 0), (.int .i64 4, 0), (.int .i64 8, 0), (.sl 31 0 0 4 4 false 1, 0), (.sl 33 0 0 32 32 false 1, 0), (.sl 35 0 0 16 16 false 1, 0), (.sl 37 0 0 48 48 false 1, 0), (.sl 39 0 0 32 32 false 1, 0), (.sl 41 0 0 7 7 false 1, 0), (.sl 43 0 0 6 6 false 1, 0), (.int .i64 4, 0), (.int .i64 4, 0), (.int .i64 1, 0), (.int .i64 4, 0), (.int .i64 8, 0), (.int .i64 2, 0), (.map 44, 0), (.sl 45 0 0 4 4 true 4, 0), (.nilSl, 1), (.int .i64 3, 0), (.int .i64 28, 0), (.bool false, 0)]
noncomputable def c7x2L : List (Nat × ABlk) := [(0, .row true 0 [(.opq 0, 0), (.sym .i64 (.var 1002), 0)]),
    (44, .map [(.int .i64 5, .ptr 245 0 0, 0)] 1),
    (45, .row true 0 [(.int .i64 0, 0), (.sl 257 0 0 2 2 false 1, 0), (.int .i64 1, 0), (.int .i64 1, 0), (.int .i64 0, 0), (.nilSl, 0), (.int .i64 0, 0), (.int .i64 0, 0), (.int .i64 0, 0), (.nilSl, 0), (.int .i64 0, 0), (.int .i64 0, 0), (.int .i64 0, 0), (.nilSl, 0), (.int .i64 0, 0), (.int .i64 0, 0)]),
    (235, .row true 0 [(.int .i64 1, 0)]),
    (236, .row true 0 [(.int .i64 6, 0), (.int .i64 1000000, 0), (.sl 235 0 0 1 1 true 1, 0), (.int .i64 1, 0), (.int .i64 0, 0)]),
    (242, .row true 0 [(.int .i64 1, 0), (.int .i64 2, 0)]),
    (244, .row true 0 [(.int .i64 1, 0), (.int .i64 2, 0), (.int .i64 5, 0)]),
    (245, .row true 0 [(.int .i64 5, 0), (.int .i64 1000000, 0), (.sl 242 0 0 2 2 false 1, 0), (.sym .i64 (.var 2005), 0), (.int .i64 7, 0), (.sl 244 0 0 3 3 false 1, 0), (.int .i64 1, 0), (.sl 255 0 0 1 1 false 1, 0), (.int .i64 2, 0), (.bool false, 0), (.int .i64 0, 0), (.int .i64 0, 0), (.bool true, 0), (.bool false, 0)]),
    (255, .row true 0 [(.int .i64 0, 0)]),
    (257, .row true 0 [(.int .i64 1, 0), (.int .i64 2, 0)]),
    (226, .row true 0 [])] ++ mdlL
noncomputable def c7x3T : List (Nat × AV) := [(39, .int .i64 3), (40, .bool true), (41, .ptr 46 0 0), (42, .int .i64 0), (43, .bool false), (44, .int .i64 3)] ++ c7xB
noncomputable def c7x3C : List (AV × Nat) := [(.int .i64 1, 0), (.int .i64 8, 0), (.int .i64 4, 0), (.int .i64 8, 0), (.sl 31 0 0 4 4 false 1, 0), (.sl 33 0 0 32 32 false 1, 0), (.sl 35 0 0 16 16 false 1, 0), (.sl 37 0 0 48 48 false 1, 0), (.sl 39 0 0 32 32 false 1, 0), (.sl 41 0 0 7 7 false 1, 0), (.sl 43 0 0 6 6 false 1, 0), (.int .i64 4, 0), (.int .i64 4, 0), (.int .i64 1, 0), (.int .i64 4, 0), (.int .i64 8, 0), (.int .i64 3, 0), (.map 44, 0), (.sl 45 0 0 4 4 true 4, 0), (.nilSl, 1), (.int .i64 4, 0), (.int .i64 28, 0), (.bool false, 0)]
noncomputable def c7x3L : List (Nat × ABlk) := [(0, .row true 0 [(.opq 0, 0), (.sym .i64 (.var 1002), 0)]),
    (44, .map [(.int .i64 5, .ptr 245 0 0, 0)] 1),
    (45, .row true 0 [(.int .i64 0, 0), (.sl 257 0 0 3 3 false 1, 0), (.int .i64 1, 0), (.int .i64 3, 0), (.int .i64 0, 0), (.nilSl, 0), (.int .i64 0, 0), (.int .i64 0, 0), (.int .i64 0, 0), (.nilSl, 0), (.int .i64 0, 0), (.int .i64 0, 0), (.int .i64 0, 0), (.nilSl, 0), (.int .i64 0, 0), (.int .i64 0, 0)]),
    (235, .row true 0 [(.int .i64 1, 0)]),
    (236, .row true 0 [(.int .i64 6, 0), (.int .i64 1000000, 0), (.sl 235 0 0 1 1 true 1, 0), (.int .i64 1, 0), (.int .i64 0, 0)]),
    (242, .row true 0 [(.int .i64 1, 0), (.int .i64 2, 0)]),
    (244, .row true 0 [(.int .i64 1, 0), (.int .i64 2, 0), (.int .i64 5, 0)]),
    (245, .row true 0 [(.int .i64 5, 0), (.int .i64 1000000, 0), (.sl 242 0 0 2 2 false 1, 0), (.sym .i64 (.var 2005), 0), (.int .i64 7, 0), (.sl 244 0 0 3 3 false 1, 0), (.int .i64 1, 0), (.sl 255 0 0 1 1 false 1, 0), (.int .i64 3, 0), (.bool false, 0), (.int .i64 0, 0), (.int .i64 0, 0), (.bool true, 0), (.bool false, 0)]),
    (255, .row true 0 [(.int .i64 0, 0)]),
    (257, .row true 0 [(.int .i64 1, 0), (.int .i64 2, 0), (.int .i64 5, 0)]),
    (226, .row true 0 [])] ++ mdlL
set_option maxHeartbeats 0 in
theorem pre7_1 : stChk 246 [(226, 1)] [(2005, .lit 1)] c7x0T c7x0C c7x0L (evList (envF 0 7) (evm (envF 0 7) false) 400 pre2 ⟨100, mkT t1L⟩ (mkH s1L 233)) = some 67 := by kernel_rfl
set_option maxHeartbeats 0 in
theorem pre7_2 : stChk 246 [(226, 1)] [(2005, .lit 2)] c7x0T c7x0C c7x0L (evList (envF 1 7) (evm (envF 1 7) false) 400 pre2 ⟨100, mkT t1L⟩ (mkH s1L 233)) = some 67 := by kernel_rfl
set_option maxHeartbeats 0 in
theorem pre7_3 : stChk 246 [(226, 1)] [(2005, .lit 3)] c7x0T c7x0C c7x0L (evList (envF 2 7) (evm (envF 2 7) false) 400 pre2 ⟨100, mkT t1L⟩ (mkH s1L 233)) = some 67 := by kernel_rfl
set_option maxHeartbeats 0 in
theorem pre7_4 : stChk 246 [(226, 1)] [(2005, .lit 4)] c7x0T c7x0C c7x0L (evList (envF 3 7) (evm (envF 3 7) false) 400 pre2 ⟨100, mkT t1L⟩ (mkH s1L 233)) = some 67 := by kernel_rfl
set_option maxHeartbeats 0 in
theorem pre7_5 : stChk 246 [(226, 1)] [(2005, .lit 5)] c7x0T c7x0C c7x0L (evList (envF 4 7) (evm (envF 4 7) false) 400 pre2 ⟨100, mkT t1L⟩ (mkH s1L 233)) = some 67 := by kernel_rfl
set_option maxHeartbeats 0 in
theorem pre7_6 : stChk 246 [(226, 1)] [(2005, .lit 6)] c7x0T c7x0C c7x0L (evList (envF 5 7) (evm (envF 5 7) false) 400 pre2 ⟨100, mkT t1L⟩ (mkH s1L 233)) = some 67 := by kernel_rfl
set_option maxHeartbeats 0 in
theorem pre7_7 : stChk 246 [(226, 1)] [(2005, .lit 7)] c7x0T c7x0C c7x0L (evList (envF 6 7) (evm (envF 6 7) false) 400 pre2 ⟨100, mkT t1L⟩ (mkH s1L 233)) = some 67 := by kernel_rfl
set_option maxHeartbeats 0 in
theorem pre7_8 : stChk 246 [(226, 1)] [(2005, .lit 8)] c7x0T c7x0C c7x0L (evList (envF 7 7) (evm (envF 7 7) false) 400 pre2 ⟨100, mkT t1L⟩ (mkH s1L 233)) = some 67 := by kernel_rfl
set_option maxHeartbeats 0 in
theorem cont7_1 : stChk 258 [(226, 1), (257, 1)] [(2005, .var 2005)] c7x1T c7x1C c7x1L (rdRun [] 67 false c7x0T c7x0C c7x0L 246) = some 78 := by kernel_rfl
set_option maxHeartbeats 0 in
theorem cont7_2 : stChk 258 [(226, 1), (244, 1)] [(2005, .var 2005)] c7x2T c7x2C c7x2L (rdRun [.le (.lit 2) (.var 2005) true] 78 false c7x1T c7x1C c7x1L 258) = some 89 := by kernel_rfl
set_option maxHeartbeats 0 in
theorem cont7_3 : stChk 258 [(226, 1), (257, 1)] [(2005, .var 2005)] c7x3T c7x3C c7x3L (rdRun [] 89 false c7x2T c7x2C c7x2L 258) = some 100 := by kernel_rfl
set_option maxHeartbeats 0 in
theorem end7_1 : stChk 246 [(226, 1), (244, 1)] (tabC 7 89 2) qT qC qL (rdRun [.eq (.var 2005) (.lit 1) true] 78 false c7x1T c7x1C c7x1L 258) = some 89 := by kernel_rfl
set_option maxHeartbeats 0 in
theorem end7_2 : stChk 246 [(226, 1), (244, 1)] (tabC 7 111 4) qT qC qL (rdRun [] 100 false c7x3T c7x3C c7x3L 258) = some 111 := by kernel_rfl
theorem chain7 {r : Raw} {w0 : World} {m : Int} {a : Act} {w : World} {Q : Exit → Act → World → Prop} (hm : 1 ≤ m ∧ m ≤ 8) (S0 : SL r w0 c7x0T c7x0C c7x0L 246 67 (rq 0 0 0 0 m 0) a w)
    (hq : ∀ (k N n : Nat) (κ : Int) (a' : Act) (w' : World), k + n = 19999 → k ≤ 16 → N = 67 + 11 * k → 0 ≤ κ → κ ≤ 220045 → SL r w0 qT qC qL 246 N (rq (k : Int) ((k : Int) + 1) κ (k : Int) m 7) a' w' → Code.rounds Tryz.prog lawLoop Q n a' w') : Code.rounds Tryz.prog lawLoop Q 19999 a w := by
  refine step_cont S0 cont7_1 (by decide) (by decide) (.inl rfl) fun a1 w1 S1 => ?_
  by_cases h1 : m = 1
  · subst h1; exact step_end S1 end7_1 (by decide) (by decide) (.inr rfl) fun a' w' S' => hq 2 89 19997 89 a' w' rfl (by decide) rfl (by decide) (by decide) S'
  refine step_cont S1 cont7_2 (by decide) (by decide) (.inr ⟨2, rfl, by omega⟩) fun a2 w2 S2 => ?_
  refine step_cont S2 cont7_3 (by decide) (by decide) (.inl rfl) fun a3 w3 S3 => ?_
  exact step_end S3 end7_2 (by decide) (by decide) (.inl rfl) fun a' w' S' => hq 4 111 19995 111 a' w' rfl (by decide) rfl (by decide) (by decide) S'
end Go.Proofs.YthhhpaeheccelaaGreat
