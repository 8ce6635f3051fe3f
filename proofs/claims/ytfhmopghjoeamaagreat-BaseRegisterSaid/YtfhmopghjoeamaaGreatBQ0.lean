/-
  A part of the proof: contracts of inner functions.
-/
import Derived.Test.YtfhmopghjoeamaaGreatBF
import Derived.Test.YtfhmopghjoeamaaGreatOut1
set_option linter.unusedVariables false
set_option linter.unusedSimpArgs false
namespace Go.Proofs.YtfhmopghjoeamaaGreat
open Go.Am
theorem Xp:qq Tryz.prog [(18,rA)] := .cons vQ .nil
set_option maxRecDepth 1000000 in
theorem AO:sO Tryz.prog (jD [(18,rA)]) 3000 12=true:=by kernel_rfl
theorem KL:bR Tryz.prog 12 rZ:=FK (bt Xp) cO AO
theorem Xq:cr Tryz.prog OB:=bt (.cons Aw (.cons F2 (.cons Ga (.cons JX (.cons Wt (.cons Gk (.cons Gh (.cons tX (.cons OQ (.cons OM (.cons vQ (.cons O5 (.cons WG (.cons KL .nil))))))))))))))
end Go.Proofs.YtfhmopghjoeamaaGreat
