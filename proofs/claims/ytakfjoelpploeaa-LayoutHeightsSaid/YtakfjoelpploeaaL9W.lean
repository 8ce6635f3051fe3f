/-
  A part of the proof of the laws of layer 9: contracts of inner functions.
-/
import Derived.Test.YtakfjoelpploeaaL9T
import Derived.Test.YtakfjoelpploeaaAmY3
set_option linter.unusedVariables false
namespace Go.Proofs.Ytakfjoelpploeaa
open Go.Am
theorem worksOrders : Try.prog.follows .mixedOrders = true := by kernel_rfl
theorem worksTrue : lawTrue Try.prog (tabO []) 200 35 = true := by kernel_rfl
theorem worksF : SoundF Try.prog 35 trueS := closedF (tab_sound .nil) worksOrders worksTrue
end Go.Proofs.Ytakfjoelpploeaa
