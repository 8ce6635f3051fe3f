/-
  A part of the proof: contracts of inner functions.
-/
import Derived.Test.YtofmbmclopgldaaGreatT9D
import Derived.Test.YtofmbmclopgldaaGreatT9Q1
set_option linter.unusedVariables false
set_option linter.unusedSimpArgs false
namespace Go.Proofs.YtofmbmclopgldaaGreat
open Go.Am
def UA (k:IntKind) (h:PT ak) (N:Nat) (s:Value) (xs:List Int):Prop:=(s = .slice none 0 0∧xs=[])∨∃ b cap,s = .slice (some ⟨b,0,none⟩) xs.length cap∧N≤b∧h.get b=some (.cells (PT.ofList .leaf 0 (xs.map (.int k))) false)
theorem UA.kF {k:IntKind} {h:PT ak} {N:Nat} {s:Value} {xs:List Int} (hs:UA k h N s xs):aW k h s xs:=by
 rcases hs with hs | ⟨b,cap,e,_,hb⟩
 ·exact .inl hs
 ·exact jA.kF (lo:=0) (hi:=b+1) (.inr ⟨b,cap,e,Nat.zero_le _,Nat.lt_succ_self _,hb⟩)
end Go.Proofs.YtofmbmclopgldaaGreat
