/-
  A part of the proof: contracts of inner functions.
-/
import Derived.Test.YtbceiadaihphaaaGreatPM
set_option linter.unusedVariables false
set_option linter.unusedSimpArgs false
namespace Go.Proofs.YtbceiadaihphaaaGreat
open Go.Am
set_option maxRecDepth 100000 in
theorem Cw:qJ Tryz.prog (pN []) 3000 10=true:=by kernel_rfl
theorem MR:iX Tryz.prog 10 r7:=Ae (gK .nil) pT Cw
set_option maxRecDepth 100000 in
theorem Cx:qJ Tryz.prog (pN []) 3000 16=true:=by kernel_rfl
theorem MS:iX Tryz.prog 16 r7:=Ae (gK .nil) pT Cx
theorem Zl:eU Tryz.prog OP:=gK (.cons atF (.cons LR (.cons Ia (.cons MR (.cons MS .nil)))))
end Go.Proofs.YtbceiadaihphaaaGreat
