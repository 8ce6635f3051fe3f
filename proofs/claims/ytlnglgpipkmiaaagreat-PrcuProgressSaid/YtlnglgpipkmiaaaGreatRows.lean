/-
  No cell of these rows narrows 'for every input' (looked for: loops, veiled, ifaces, maps, wideKeys, modest, calm, conditions, laid).
  DERIVED. THE GIVEN ROWS OF THIS SEAT. 3 by the template 'for every input the law returns true; each argument reads behind the call as it read before'; 0 by the template 'total and deterministic' (their statements: YtlnglgpipkmiaaaGreatTotals.lean).
  GIVEN WITH THE SEED: the statements are not yours to turn. If you find one false, say at which input.
  Laid BY PROGRAM, IN A SANDBOX (cutbox-rows.mjs): the forced cells as the released guide's own fill.sh prints them over the translation 1d17e59b47647f5f… (all of the seat's roots in one cut). By AI agents, Wed Nov 11 2026. No macro, syntax, notation, axiom, sorry.
-/
import Derived.Test.YtlnglgpipkmiaaaGreatChecked
import GoSem.Claim
import GoSem.ClaimJoined
import GoSem.ClaimMapViews
import Derived.JoinedTies
import Derived.KernelRfl
namespace Go.Proofs.YtlnglgpipkmiaaaGreat
/- THE CELL 'sum', in the pinned program and in every row, IS THE sha256 OF THE DUMP (.gsa) THAT YtlnglgpipkmiaaaGreatProg.lean LOADS. Nothing in Lean hashes anything: it is a label: what it is worth is what the hold of that sum in a sandbox is worth. -/
noncomputable def Tryz.pinned : Pinned := { name := "ytlnglgpipkmiaaagreat", sum := "1d17e59b47647f5f30b98d2204c2351ebc2258571b2d477a98edd3006e21be47", checked := Tryz.checked }
namespace Rows
def none {H : Type} : Left H := { results := [], args := [] }

/-- 'leapfroglaw19.PrcuProgress': WHATEVER THE INPUT: true; the input reads as it did. -/
def prcuProgressSpec : ChangeSpec := { name := "prcuProgress", fn := fun _ => fun
  | [d1, d2, d3, d4] => { results := [.lit (.bool true)], args := [d1, d2, d3, d4] }
  | _ => none }
def prcuProgressRow : OpenClaim := { program := "ytlnglgpipkmiaaagreat", sum := "1d17e59b47647f5f30b98d2204c2351ebc2258571b2d477a98edd3006e21be47", func := "leapfrog/leapfroglaw19.PrcuProgress", spec := "prcuProgress", inPlace := ["sync/atomic.StoreUint64", "sync/atomic.LoadUint64"], unfollowed := true, recurses := true, apart := false }
def PrcuProgressSaid : Prop := prcuProgressRow.holds Tryz.pinned (OpenSpec.ofChange prcuProgressSpec)

/-- ITS FALSE NEIGHBOUR: 'it returns false'. Refute it at one input. -/
def prcuProgressWrong : ChangeSpec := { name := "prcuProgress", fn := fun _ => fun
  | [d1, d2, d3, d4] => { results := [.lit (.bool false)], args := [d1, d2, d3, d4] }
  | _ => none }
def PrcuProgressWrongFalsely : Prop := prcuProgressRow.holds Tryz.pinned (OpenSpec.ofChange prcuProgressWrong)

/-- 'leapfroglaw19.PrcuGrace': WHATEVER THE INPUT: true; the input reads as it did. -/
def prcuGraceSpec : ChangeSpec := { name := "prcuGrace", fn := fun _ => fun
  | [d1, d2, d3] => { results := [.lit (.bool true)], args := [d1, d2, d3] }
  | _ => none }
def prcuGraceRow : OpenClaim := { program := "ytlnglgpipkmiaaagreat", sum := "1d17e59b47647f5f30b98d2204c2351ebc2258571b2d477a98edd3006e21be47", func := "leapfrog/leapfroglaw19.PrcuGrace", spec := "prcuGrace", inPlace := ["sync/atomic.StoreUint64", "sync/atomic.LoadUint64"], unfollowed := true, recurses := true, apart := false }
def PrcuGraceSaid : Prop := prcuGraceRow.holds Tryz.pinned (OpenSpec.ofChange prcuGraceSpec)

/-- ITS FALSE NEIGHBOUR: 'it returns false'. Refute it at one input. -/
def prcuGraceWrong : ChangeSpec := { name := "prcuGrace", fn := fun _ => fun
  | [d1, d2, d3] => { results := [.lit (.bool false)], args := [d1, d2, d3] }
  | _ => none }
def PrcuGraceWrongFalsely : Prop := prcuGraceRow.holds Tryz.pinned (OpenSpec.ofChange prcuGraceWrong)

/-- 'leapfroglaw19.PrcuSteps': WHATEVER THE INPUT: true; the input reads as it did. -/
def prcuStepsSpec : ChangeSpec := { name := "prcuSteps", fn := fun _ => fun
  | [d1, d2] => { results := [.lit (.bool true)], args := [d1, d2] }
  | _ => none }
def prcuStepsRow : OpenClaim := { program := "ytlnglgpipkmiaaagreat", sum := "1d17e59b47647f5f30b98d2204c2351ebc2258571b2d477a98edd3006e21be47", func := "leapfrog/leapfroglaw19.PrcuSteps", spec := "prcuSteps", inPlace := ["sync/atomic.StoreUint64", "sync/atomic.LoadUint64"], unfollowed := true, recurses := true, apart := false }
def PrcuStepsSaid : Prop := prcuStepsRow.holds Tryz.pinned (OpenSpec.ofChange prcuStepsSpec)

/-- ITS FALSE NEIGHBOUR: 'it returns false'. Refute it at one input. -/
def prcuStepsWrong : ChangeSpec := { name := "prcuSteps", fn := fun _ => fun
  | [d1, d2] => { results := [.lit (.bool false)], args := [d1, d2] }
  | _ => none }
def PrcuStepsWrongFalsely : Prop := prcuStepsRow.holds Tryz.pinned (OpenSpec.ofChange prcuStepsWrong)

/- THE SECOND FORM. 'bulk': how many values and letters a reading holds, each counted each time it is reached (what is shared counts as often as it is met; a slice's spare places count too). A statement '..UptoSaid' is the law's where the arguments, and the package variables that the reading takes, are together of bulk at most 1048576: NARROWER than '..Said'. Prove '..Said' where nothing that the law and all that it calls make is longer than what came in: it says more and counts as full. Else prove '..UptoSaid'. A law counts once. -/
mutual
def uptoBulk {H : Type} : DataW H → Nat
  | .lit (.string bytes) => bytes.length + 1
  | .lit _ => 1
  | .nil => 1
  | .ptr d => uptoBulk d + 1
  | .slice elems spare => uptoBulkAll elems + uptoBulkAll spare + 1
  | .agg parts => uptoBulkAll parts + 1
  | .iface _ d => uptoBulk d + 1
  | .map entries => uptoBulkEntries entries + 1
  | .held _ => 1
def uptoBulkAll {H : Type} : List (DataW H) → Nat
  | [] => 0
  | d :: r => uptoBulk d + uptoBulkAll r
def uptoBulkEntries {H : Type} : List (Lit × DataW H) → Nat
  | [] => 0
  | x :: r => uptoBulkEntry x + uptoBulkEntries r
def uptoBulkEntry {H : Type} : Lit × DataW H → Nat
  | (.string bytes, d) => bytes.length + uptoBulk d + 1
  | (_, d) => uptoBulk d + 1
 end
def uptoSmall : (H : Type) → List (DataW H) → Bool := fun _ ds => decide (uptoBulkAll ds ≤ 1048576)
def OpenSpec.upto (s : _root_.Go.ChangeSpec) : _root_.Go.OpenSpec := { _root_.Go.OpenSpec.ofChange s with cond := some uptoSmall }

/-- 'leapfroglaw19.PrcuProgress', WHERE WHAT IT READS IS OF BULK AT MOST 1048576: true; the input reads as it did. -/
def prcuProgressUptoRow : OpenClaim := { program := "ytlnglgpipkmiaaagreat", sum := "1d17e59b47647f5f30b98d2204c2351ebc2258571b2d477a98edd3006e21be47", func := "leapfrog/leapfroglaw19.PrcuProgress", spec := "prcuProgress", inPlace := ["sync/atomic.StoreUint64", "sync/atomic.LoadUint64"], unfollowed := true, recurses := true, apart := false, narrowed := true }
def PrcuProgressUptoSaid : Prop := prcuProgressUptoRow.holds Tryz.pinned (OpenSpec.upto prcuProgressSpec)

/-- 'leapfroglaw19.PrcuGrace', WHERE WHAT IT READS IS OF BULK AT MOST 1048576: true; the input reads as it did. -/
def prcuGraceUptoRow : OpenClaim := { program := "ytlnglgpipkmiaaagreat", sum := "1d17e59b47647f5f30b98d2204c2351ebc2258571b2d477a98edd3006e21be47", func := "leapfrog/leapfroglaw19.PrcuGrace", spec := "prcuGrace", inPlace := ["sync/atomic.StoreUint64", "sync/atomic.LoadUint64"], unfollowed := true, recurses := true, apart := false, narrowed := true }
def PrcuGraceUptoSaid : Prop := prcuGraceUptoRow.holds Tryz.pinned (OpenSpec.upto prcuGraceSpec)

/-- 'leapfroglaw19.PrcuSteps', WHERE WHAT IT READS IS OF BULK AT MOST 1048576: true; the input reads as it did. -/
def prcuStepsUptoRow : OpenClaim := { program := "ytlnglgpipkmiaaagreat", sum := "1d17e59b47647f5f30b98d2204c2351ebc2258571b2d477a98edd3006e21be47", func := "leapfrog/leapfroglaw19.PrcuSteps", spec := "prcuSteps", inPlace := ["sync/atomic.StoreUint64", "sync/atomic.LoadUint64"], unfollowed := true, recurses := true, apart := false, narrowed := true }
def PrcuStepsUptoSaid : Prop := prcuStepsUptoRow.holds Tryz.pinned (OpenSpec.upto prcuStepsSpec)

end Rows
end Go.Proofs.YtlnglgpipkmiaaaGreat
