/-
  No cell of these rows narrows 'for every input' (looked for: loops, veiled, ifaces, maps, wideKeys, modest, calm, conditions, laid).
  DERIVED. THE GIVEN ROWS OF THIS SEAT. 3 by the template 'for every input the law returns true; each argument reads behind the call as it read before'; 0 by the template 'total and deterministic' (their statements: YtaeikobildpafaaGreatTotals.lean).
  GIVEN WITH THE SEED: the statements are not yours to turn. If you find one false, say at which input.
  Laid BY PROGRAM, IN A SANDBOX (cutbox-rows.mjs): the forced cells as the released guide's own fill.sh prints them over the translation e0fc85845b38b278… (all of the seat's roots in one cut). By AI agents, Wed Nov 11 2026. No macro, syntax, notation, axiom, sorry.
-/
import Derived.Test.YtaeikobildpafaaGreatChecked
import GoSem.Claim
import GoSem.ClaimJoined
import GoSem.ClaimMapViews
import Derived.JoinedTies
import Derived.KernelRfl
namespace Go.Proofs.YtaeikobildpafaaGreat
/- THE CELL 'sum', in the pinned program and in every row, IS THE sha256 OF THE DUMP (.gsa) THAT YtaeikobildpafaaGreatProg.lean LOADS. Nothing in Lean hashes anything: it is a label: what it is worth is what the hold of that sum in a sandbox is worth. -/
noncomputable def Tryz.pinned : Pinned := { name := "ytaeikobildpafaagreat", sum := "e0fc85845b38b27807b07c1676bcb9dcf119f960f143ea30923a69875f9fb922", checked := Tryz.checked }
namespace Rows
def none {H : Type} : Left H := { results := [], args := [] }

/-- 'leapfroglaw19.PrcuExamples': WHATEVER THE INPUT: true; the input reads as it did. -/
def prcuExamplesSpec : ChangeSpec := { name := "prcuExamples", fn := fun _ => fun
  | [] => { results := [.lit (.bool true)], args := [] }
  | _ => none }
def prcuExamplesRow : OpenClaim := { program := "ytaeikobildpafaagreat", sum := "e0fc85845b38b27807b07c1676bcb9dcf119f960f143ea30923a69875f9fb922", func := "leapfrog/leapfroglaw19.PrcuExamples", spec := "prcuExamples", inPlace := ["sync/atomic.StoreUint64", "sync/atomic.LoadUint64"], unfollowed := true, recurses := true, apart := false }
def PrcuExamplesSaid : Prop := prcuExamplesRow.holds Tryz.pinned (OpenSpec.ofChange prcuExamplesSpec)

/-- ITS FALSE NEIGHBOUR: 'it returns false'. Refute it at one input. -/
def prcuExamplesWrong : ChangeSpec := { name := "prcuExamples", fn := fun _ => fun
  | [] => { results := [.lit (.bool false)], args := [] }
  | _ => none }
def PrcuExamplesWrongFalsely : Prop := prcuExamplesRow.holds Tryz.pinned (OpenSpec.ofChange prcuExamplesWrong)

/-- 'leapfroglaw20.RigExamples': WHATEVER THE INPUT: true; the input reads as it did. -/
def rigExamplesSpec : ChangeSpec := { name := "rigExamples", fn := fun _ => fun
  | [] => { results := [.lit (.bool true)], args := [] }
  | _ => none }
def rigExamplesRow : OpenClaim := { program := "ytaeikobildpafaagreat", sum := "e0fc85845b38b27807b07c1676bcb9dcf119f960f143ea30923a69875f9fb922", func := "leapfrog/leapfroglaw20.RigExamples", spec := "rigExamples", inPlace := ["sync/atomic.StoreUint64", "sync/atomic.LoadUint64"], unfollowed := true, recurses := true, apart := false }
def RigExamplesSaid : Prop := rigExamplesRow.holds Tryz.pinned (OpenSpec.ofChange rigExamplesSpec)

/-- ITS FALSE NEIGHBOUR: 'it returns false'. Refute it at one input. -/
def rigExamplesWrong : ChangeSpec := { name := "rigExamples", fn := fun _ => fun
  | [] => { results := [.lit (.bool false)], args := [] }
  | _ => none }
def RigExamplesWrongFalsely : Prop := rigExamplesRow.holds Tryz.pinned (OpenSpec.ofChange rigExamplesWrong)

/-- 'leapfroglaw23.BaseExamples': WHATEVER THE INPUT: true; the input reads as it did. -/
def baseExamplesSpec : ChangeSpec := { name := "baseExamples", fn := fun _ => fun
  | [] => { results := [.lit (.bool true)], args := [] }
  | _ => none }
def baseExamplesRow : OpenClaim := { program := "ytaeikobildpafaagreat", sum := "e0fc85845b38b27807b07c1676bcb9dcf119f960f143ea30923a69875f9fb922", func := "leapfrog/leapfroglaw23.BaseExamples", spec := "baseExamples", inPlace := ["sync/atomic.StoreUint64", "sync/atomic.LoadUint64", "sync/atomic.CompareAndSwapUint64"], unfollowed := true, recurses := true, apart := false }
def BaseExamplesSaid : Prop := baseExamplesRow.holds Tryz.pinned (OpenSpec.ofChange baseExamplesSpec)

/-- ITS FALSE NEIGHBOUR: 'it returns false'. Refute it at one input. -/
def baseExamplesWrong : ChangeSpec := { name := "baseExamples", fn := fun _ => fun
  | [] => { results := [.lit (.bool false)], args := [] }
  | _ => none }
def BaseExamplesWrongFalsely : Prop := baseExamplesRow.holds Tryz.pinned (OpenSpec.ofChange baseExamplesWrong)

/- THE SECOND FORM. 'bulk': how many values and letters a reading holds, each counted each time it is reached (what is shared counts as often as it is met; a slice's spare places count too). A statement '..UptoSaid' is the law's where the arguments, and the package variables that the reading takes, are together of bulk at most 1048576: NARROWER than '..Said'. Prove '..Said' where nothing that the law and all that it calls make is longer than what came in: it says more and counts as full. Else prove '..UptoSaid'. A law counts once. -/
mutual
def uptoBulk {H : Type} : DataW H → Nat
  | .lit (.string bytes) => bytes.length + 1
  | .lit _ => 1
  | .nil => 1
  | .ptr d => uptoBulk d + 1
  | .slice elems spare => uptoBulkAll elems + uptoBulkAll spare + 1
  | .agg parts => uptoBulkAll parts + 1
  | .iface _ d => uptoBulk d + 1
  | .map entries => uptoBulkEntries entries + 1
  | .held _ => 1
def uptoBulkAll {H : Type} : List (DataW H) → Nat
  | [] => 0
  | d :: r => uptoBulk d + uptoBulkAll r
def uptoBulkEntries {H : Type} : List (Lit × DataW H) → Nat
  | [] => 0
  | x :: r => uptoBulkEntry x + uptoBulkEntries r
def uptoBulkEntry {H : Type} : Lit × DataW H → Nat
  | (.string bytes, d) => bytes.length + uptoBulk d + 1
  | (_, d) => uptoBulk d + 1
 end
def uptoSmall : (H : Type) → List (DataW H) → Bool := fun _ ds => decide (uptoBulkAll ds ≤ 1048576)
def OpenSpec.upto (s : _root_.Go.ChangeSpec) : _root_.Go.OpenSpec := { _root_.Go.OpenSpec.ofChange s with cond := some uptoSmall }

/-- 'leapfroglaw19.PrcuExamples', WHERE WHAT IT READS IS OF BULK AT MOST 1048576: true; the input reads as it did. -/
def prcuExamplesUptoRow : OpenClaim := { program := "ytaeikobildpafaagreat", sum := "e0fc85845b38b27807b07c1676bcb9dcf119f960f143ea30923a69875f9fb922", func := "leapfrog/leapfroglaw19.PrcuExamples", spec := "prcuExamples", inPlace := ["sync/atomic.StoreUint64", "sync/atomic.LoadUint64"], unfollowed := true, recurses := true, apart := false, narrowed := true }
def PrcuExamplesUptoSaid : Prop := prcuExamplesUptoRow.holds Tryz.pinned (OpenSpec.upto prcuExamplesSpec)

/-- 'leapfroglaw20.RigExamples', WHERE WHAT IT READS IS OF BULK AT MOST 1048576: true; the input reads as it did. -/
def rigExamplesUptoRow : OpenClaim := { program := "ytaeikobildpafaagreat", sum := "e0fc85845b38b27807b07c1676bcb9dcf119f960f143ea30923a69875f9fb922", func := "leapfrog/leapfroglaw20.RigExamples", spec := "rigExamples", inPlace := ["sync/atomic.StoreUint64", "sync/atomic.LoadUint64"], unfollowed := true, recurses := true, apart := false, narrowed := true }
def RigExamplesUptoSaid : Prop := rigExamplesUptoRow.holds Tryz.pinned (OpenSpec.upto rigExamplesSpec)

/-- 'leapfroglaw23.BaseExamples', WHERE WHAT IT READS IS OF BULK AT MOST 1048576: true; the input reads as it did. -/
def baseExamplesUptoRow : OpenClaim := { program := "ytaeikobildpafaagreat", sum := "e0fc85845b38b27807b07c1676bcb9dcf119f960f143ea30923a69875f9fb922", func := "leapfrog/leapfroglaw23.BaseExamples", spec := "baseExamples", inPlace := ["sync/atomic.StoreUint64", "sync/atomic.LoadUint64", "sync/atomic.CompareAndSwapUint64"], unfollowed := true, recurses := true, apart := false, narrowed := true }
def BaseExamplesUptoSaid : Prop := baseExamplesUptoRow.holds Tryz.pinned (OpenSpec.upto baseExamplesSpec)

end Rows
end Go.Proofs.YtaeikobildpafaaGreat
