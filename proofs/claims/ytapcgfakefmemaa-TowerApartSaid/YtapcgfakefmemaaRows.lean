/-
  No cell of these rows narrows 'for every input' (looked for: loops, veiled, ifaces, maps, wideKeys, modest, calm, conditions, laid).
  DERIVED. THE GIVEN ROWS OF THIS SEAT. 4 by the template 'for every input the law returns true; each argument reads behind the call as it read before'; 0 by the template 'total and deterministic' (their statements: YtapcgfakefmemaaTotals.lean).
  GIVEN WITH THE SEED: the statements are not yours to turn. If you find one false, say at which input.
  Laid BY PROGRAM, IN A SANDBOX (cutbox-rows.mjs): the forced cells as the released guide's own fill.sh prints them over the translation 432fd4e9f0232d8c… (all of the seat's roots in one cut). By AI agents, Wed Nov 11 2026. No macro, syntax, notation, axiom, sorry.
-/
import Derived.Test.YtapcgfakefmemaaChecked
import GoSem.Claim
import GoSem.ClaimJoined
import GoSem.ClaimMapViews
import Derived.JoinedTies
import Derived.KernelRfl
namespace Go.Proofs.Ytapcgfakefmemaa
/- THE CELL 'sum', in the pinned program and in every row, IS THE sha256 OF THE DUMP (.gsa) THAT YtapcgfakefmemaaProg.lean LOADS. Nothing in Lean hashes anything: it is a label: what it is worth is what the hold of that sum in a sandbox is worth. -/
noncomputable def Try.pinned : Pinned := { name := "ytapcgfakefmemaa", sum := "432fd4e9f0232d8c0451471deaebc5e3533448b71a13a6f2226775ddbe0096a3", checked := Try.checked }
namespace Rows
def none {H : Type} : Left H := { results := [], args := [] }

/-- 'leapfroglaw15.TowerLists': WHATEVER THE INPUT: true; the input reads as it did. -/
def towerListsSpec : ChangeSpec := { name := "towerLists", fn := fun _ => fun
  | [d1, d2, d3, d4] => { results := [.lit (.bool true)], args := [d1, d2, d3, d4] }
  | _ => none }
def towerListsRow : OpenClaim := { program := "ytapcgfakefmemaa", sum := "432fd4e9f0232d8c0451471deaebc5e3533448b71a13a6f2226775ddbe0096a3", func := "leapfrog/leapfroglaw15.TowerLists", spec := "towerLists", inPlace := ["sync/atomic.StoreUint64", "sync/atomic.LoadUint64", "sync/atomic.SwapUint64"], unfollowed := true, recurses := true, apart := false }
def TowerListsSaid : Prop := towerListsRow.holds Try.pinned (OpenSpec.ofChange towerListsSpec)

/-- ITS FALSE NEIGHBOUR: 'it returns false'. Refute it at one input. -/
def towerListsWrong : ChangeSpec := { name := "towerLists", fn := fun _ => fun
  | [d1, d2, d3, d4] => { results := [.lit (.bool false)], args := [d1, d2, d3, d4] }
  | _ => none }
def TowerListsWrongFalsely : Prop := towerListsRow.holds Try.pinned (OpenSpec.ofChange towerListsWrong)

/-- 'leapfroglaw15.TowerNew': WHATEVER THE INPUT: true; the input reads as it did. -/
def towerNewSpec : ChangeSpec := { name := "towerNew", fn := fun _ => fun
  | [d1, d2] => { results := [.lit (.bool true)], args := [d1, d2] }
  | _ => none }
def towerNewRow : OpenClaim := { program := "ytapcgfakefmemaa", sum := "432fd4e9f0232d8c0451471deaebc5e3533448b71a13a6f2226775ddbe0096a3", func := "leapfrog/leapfroglaw15.TowerNew", spec := "towerNew", inPlace := ["sync/atomic.StoreUint64", "sync/atomic.LoadUint64", "sync/atomic.SwapUint64"], unfollowed := true, recurses := true, apart := false }
def TowerNewSaid : Prop := towerNewRow.holds Try.pinned (OpenSpec.ofChange towerNewSpec)

/-- ITS FALSE NEIGHBOUR: 'it returns false'. Refute it at one input. -/
def towerNewWrong : ChangeSpec := { name := "towerNew", fn := fun _ => fun
  | [d1, d2] => { results := [.lit (.bool false)], args := [d1, d2] }
  | _ => none }
def TowerNewWrongFalsely : Prop := towerNewRow.holds Try.pinned (OpenSpec.ofChange towerNewWrong)

/-- 'leapfroglaw15.TowerApart': WHATEVER THE INPUT: true; the input reads as it did. -/
def towerApartSpec : ChangeSpec := { name := "towerApart", fn := fun _ => fun
  | [d1, d2, d3] => { results := [.lit (.bool true)], args := [d1, d2, d3] }
  | _ => none }
def towerApartRow : OpenClaim := { program := "ytapcgfakefmemaa", sum := "432fd4e9f0232d8c0451471deaebc5e3533448b71a13a6f2226775ddbe0096a3", func := "leapfrog/leapfroglaw15.TowerApart", spec := "towerApart", inPlace := ["sync/atomic.StoreUint64", "sync/atomic.LoadUint64", "sync/atomic.SwapUint64"], unfollowed := true, recurses := true, apart := false }
def TowerApartSaid : Prop := towerApartRow.holds Try.pinned (OpenSpec.ofChange towerApartSpec)

/-- ITS FALSE NEIGHBOUR: 'it returns false'. Refute it at one input. -/
def towerApartWrong : ChangeSpec := { name := "towerApart", fn := fun _ => fun
  | [d1, d2, d3] => { results := [.lit (.bool false)], args := [d1, d2, d3] }
  | _ => none }
def TowerApartWrongFalsely : Prop := towerApartRow.holds Try.pinned (OpenSpec.ofChange towerApartWrong)

/-- 'leapfroglaw15.TowerMeans': WHATEVER THE INPUT: true; the input reads as it did. -/
def towerMeansSpec : ChangeSpec := { name := "towerMeans", fn := fun _ => fun
  | [d1, d2, d3] => { results := [.lit (.bool true)], args := [d1, d2, d3] }
  | _ => none }
def towerMeansRow : OpenClaim := { program := "ytapcgfakefmemaa", sum := "432fd4e9f0232d8c0451471deaebc5e3533448b71a13a6f2226775ddbe0096a3", func := "leapfrog/leapfroglaw15.TowerMeans", spec := "towerMeans", inPlace := ["sync/atomic.StoreUint64", "sync/atomic.LoadUint64", "sync/atomic.SwapUint64"], unfollowed := true, recurses := true, apart := false }
def TowerMeansSaid : Prop := towerMeansRow.holds Try.pinned (OpenSpec.ofChange towerMeansSpec)

/-- ITS FALSE NEIGHBOUR: 'it returns false'. Refute it at one input. -/
def towerMeansWrong : ChangeSpec := { name := "towerMeans", fn := fun _ => fun
  | [d1, d2, d3] => { results := [.lit (.bool false)], args := [d1, d2, d3] }
  | _ => none }
def TowerMeansWrongFalsely : Prop := towerMeansRow.holds Try.pinned (OpenSpec.ofChange towerMeansWrong)

/- THE SECOND FORM. 'bulk': how many values and letters a reading holds, each counted each time it is reached (what is shared counts as often as it is met; a slice's spare places count too). A statement '..UptoSaid' is the law's where the arguments, and the package variables that the reading takes, are together of bulk at most 1048576: NARROWER than '..Said'. Prove '..Said' where nothing that the law and all that it calls make is longer than what came in: it says more and counts as full. Else prove '..UptoSaid'. A law counts once. -/
mutual
def uptoBulk {H : Type} : DataW H → Nat
  | .lit (.string bytes) => bytes.length + 1
  | .lit _ => 1
  | .nil => 1
  | .ptr d => uptoBulk d + 1
  | .slice elems spare => uptoBulkAll elems + uptoBulkAll spare + 1
  | .agg parts => uptoBulkAll parts + 1
  | .iface _ d => uptoBulk d + 1
  | .map entries => uptoBulkEntries entries + 1
  | .held _ => 1
def uptoBulkAll {H : Type} : List (DataW H) → Nat
  | [] => 0
  | d :: r => uptoBulk d + uptoBulkAll r
def uptoBulkEntries {H : Type} : List (Lit × DataW H) → Nat
  | [] => 0
  | x :: r => uptoBulkEntry x + uptoBulkEntries r
def uptoBulkEntry {H : Type} : Lit × DataW H → Nat
  | (.string bytes, d) => bytes.length + uptoBulk d + 1
  | (_, d) => uptoBulk d + 1
 end
def uptoSmall : (H : Type) → List (DataW H) → Bool := fun _ ds => decide (uptoBulkAll ds ≤ 1048576)
def OpenSpec.upto (s : _root_.Go.ChangeSpec) : _root_.Go.OpenSpec := { _root_.Go.OpenSpec.ofChange s with cond := some uptoSmall }

/-- 'leapfroglaw15.TowerLists', WHERE WHAT IT READS IS OF BULK AT MOST 1048576: true; the input reads as it did. -/
def towerListsUptoRow : OpenClaim := { program := "ytapcgfakefmemaa", sum := "432fd4e9f0232d8c0451471deaebc5e3533448b71a13a6f2226775ddbe0096a3", func := "leapfrog/leapfroglaw15.TowerLists", spec := "towerLists", inPlace := ["sync/atomic.StoreUint64", "sync/atomic.LoadUint64", "sync/atomic.SwapUint64"], unfollowed := true, recurses := true, apart := false, narrowed := true }
def TowerListsUptoSaid : Prop := towerListsUptoRow.holds Try.pinned (OpenSpec.upto towerListsSpec)

/-- 'leapfroglaw15.TowerNew', WHERE WHAT IT READS IS OF BULK AT MOST 1048576: true; the input reads as it did. -/
def towerNewUptoRow : OpenClaim := { program := "ytapcgfakefmemaa", sum := "432fd4e9f0232d8c0451471deaebc5e3533448b71a13a6f2226775ddbe0096a3", func := "leapfrog/leapfroglaw15.TowerNew", spec := "towerNew", inPlace := ["sync/atomic.StoreUint64", "sync/atomic.LoadUint64", "sync/atomic.SwapUint64"], unfollowed := true, recurses := true, apart := false, narrowed := true }
def TowerNewUptoSaid : Prop := towerNewUptoRow.holds Try.pinned (OpenSpec.upto towerNewSpec)

/-- 'leapfroglaw15.TowerApart', WHERE WHAT IT READS IS OF BULK AT MOST 1048576: true; the input reads as it did. -/
def towerApartUptoRow : OpenClaim := { program := "ytapcgfakefmemaa", sum := "432fd4e9f0232d8c0451471deaebc5e3533448b71a13a6f2226775ddbe0096a3", func := "leapfrog/leapfroglaw15.TowerApart", spec := "towerApart", inPlace := ["sync/atomic.StoreUint64", "sync/atomic.LoadUint64", "sync/atomic.SwapUint64"], unfollowed := true, recurses := true, apart := false, narrowed := true }
def TowerApartUptoSaid : Prop := towerApartUptoRow.holds Try.pinned (OpenSpec.upto towerApartSpec)

/-- 'leapfroglaw15.TowerMeans', WHERE WHAT IT READS IS OF BULK AT MOST 1048576: true; the input reads as it did. -/
def towerMeansUptoRow : OpenClaim := { program := "ytapcgfakefmemaa", sum := "432fd4e9f0232d8c0451471deaebc5e3533448b71a13a6f2226775ddbe0096a3", func := "leapfrog/leapfroglaw15.TowerMeans", spec := "towerMeans", inPlace := ["sync/atomic.StoreUint64", "sync/atomic.LoadUint64", "sync/atomic.SwapUint64"], unfollowed := true, recurses := true, apart := false, narrowed := true }
def TowerMeansUptoSaid : Prop := towerMeansUptoRow.holds Try.pinned (OpenSpec.upto towerMeansSpec)

end Rows
end Go.Proofs.Ytapcgfakefmemaa
