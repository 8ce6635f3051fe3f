/-
  A part of the proof: contracts of inner functions.
-/
import Derived.Test.YtfhmopghjoeamaaGreatBF
import Derived.Test.YtfhmopghjoeamaaGreatOut1
set_option linter.unusedVariables false
set_option linter.unusedSimpArgs false
namespace Go.Proofs.YtfhmopghjoeamaaGreat
open Go.Am
theorem Rw:oA Tryz.prog [(18,xS)] := .cons tO .nil
set_option maxRecDepth 1000000 in
theorem x4:qn Tryz.prog (iV [(18,xS)]) 3000 12=true:=by kernel_rfl
theorem Gi:bL Tryz.prog 12 sV:=CL (bn Rw) ct x4
theorem Rx:bW Tryz.prog OB:=bn (.cons xU (.cons CS (.cons CT (.cons FO (.cons QT (.cons C2 (.cons CY (.cons qY (.cons Kg (.cons Kc (.cons tO (.cons Ks (.cons Ra (.cons Gi .nil))))))))))))))
end Go.Proofs.YtfhmopghjoeamaaGreat
