/-
  A part of the proof: contracts of inner functions.
-/
import Derived.Test.YtfhmopghjoeamaaGreatBI
set_option linter.unusedVariables false
set_option linter.unusedSimpArgs false
namespace Go.Proofs.YtfhmopghjoeamaaGreat
open Go.Am
def mkV (g:Nat) (T:List Int):Value:=if T.length=0 then .slice none 0 0 else .slice (some ⟨g,0,none⟩) T.length (aA+1)
theorem kS {g:Nat}:mkV g [] = .slice none 0 0:=rfl
theorem mU {g:Nat} {T:List Int} (h:0<T.length):mkV g T = .slice (some ⟨g,0,none⟩) T.length (aA+1):=if_neg (by omega)
theorem qO {g:Nat} {T:List Int} {x:Int}:mkV g (T++[x]) = .slice (some ⟨g,0,none⟩) (T.length+1) (aA+1):=by rw[mU (by simp)];simp
end Go.Proofs.YtfhmopghjoeamaaGreat
