/-
  A part of the proof: contracts of inner functions.
-/
import Derived.Test.YtofmbmclopgldaaGreatPT
import Derived.Test.YtofmbmclopgldaaGreatT9P5
import Derived.Test.YtofmbmclopgldaaGreatAmZ5
import Derived.Test.YtofmbmclopgldaaGreatAmZ4
import Derived.Test.YtofmbmclopgldaaGreatOut1
import Derived.Test.YtofmbmclopgldaaGreatBF
set_option linter.unusedVariables false
set_option linter.unusedSimpArgs false
namespace Go.Proofs.YtofmbmclopgldaaGreat
open Go.Am
set_option maxRecDepth 1000000 in
theorem Ec:G6 Tryz.prog (eN [(16,uv)]) 3000 10=true:=by kernel_rfl
theorem Ql:bf Tryz.prog 10 qB:=B4 (aN (.cons tX .nil)) bA ((Ce _ _ _ _).symm.trans (G9 Ec))
end Go.Proofs.YtofmbmclopgldaaGreat
set_option linter.unusedVariables false
set_option linter.unusedSimpArgs false
namespace Go.Proofs.YtofmbmclopgldaaGreat
open Go.Am
set_option maxRecDepth 1000000 in
theorem Ed:G6 Tryz.prog (eN [(16,uv)]) 6000 36=true:=by kernel_rfl
theorem Qm:bf Tryz.prog 36 qB:=B4 (aN (.cons tX .nil)) bA ((Ce _ _ _ _).symm.trans (G9 Ed))
end Go.Proofs.YtofmbmclopgldaaGreat
set_option linter.unusedVariables false
set_option linter.unusedSimpArgs false
namespace Go.Proofs.YtofmbmclopgldaaGreat
open Go.Am
theorem adx:cr Tryz.prog OB:=aN (.cons DX (.cons KB (.cons KC (.cons O_ (.cons acE (.cons KK (.cons KJ (.cons wS (.cons Ux (.cons Uu (.cons tX (.cons UX (.cons acP (.cons zf (.cons zg (.cons HN (.cons D1 (.cons tM (.cons Pm (.cons Ct (.cons UB (.cons UC (.cons UL (.cons UM (.cons UD (.cons UE (.cons UF (.cons Pv (.cons UG (.cons KW (.cons Px (.cons Py (.cons KX (.cons Ql (.cons Qm .nil)))))))))))))))))))))))))))))))))))
end Go.Proofs.YtofmbmclopgldaaGreat
