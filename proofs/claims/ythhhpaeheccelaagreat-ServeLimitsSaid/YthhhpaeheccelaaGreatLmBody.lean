/- The law's code in pieces. -/
import Derived.Test.YthhhpaeheccelaaGreatLmN
set_option linter.unusedVariables false
set_option linter.unusedSimpArgs false
set_option maxRecDepth 100000
namespace Go.Proofs.YthhhpaeheccelaaGreat

open Go.AE Go.RowKit
noncomputable def fstC : Code → Code
  | .seq a _ => a
  | c => c
noncomputable def sndC : Code → Code
  | .seq _ b => b
  | c => c
noncomputable def inC : Code → Code
  | .block _ c => c
  | .loop c => c
  | c => c
noncomputable def lawC : Code := (Tryz.f4.body).getD .skip
noncomputable def rest4 : Code := sndC (sndC (sndC (sndC lawC)))
noncomputable def rest7 : Code := sndC (sndC (sndC rest4))
noncomputable def pre1 : List Code := [fstC lawC, fstC (sndC lawC), fstC (sndC (sndC lawC)), fstC (sndC (sndC (sndC lawC)))]
noncomputable def pre2 : List Code := [fstC rest4, fstC (sndC rest4), fstC (sndC (sndC rest4)), fstC (fstC rest7)]
noncomputable def lawLoop : Code := inC (inC (sndC (fstC rest7)))
noncomputable def lawPost : Code := sndC rest7
theorem law_split : Tryz.f4.body = some (seqL pre1 (.seq (fstC rest4) (.seq (fstC (sndC rest4)) (.seq (fstC (sndC (sndC rest4))) (.seq (.seq (fstC (fstC rest7)) (.block 0 (.loop lawLoop))) lawPost))))) := by kernel_rfl
end Go.Proofs.YthhhpaeheccelaaGreat
