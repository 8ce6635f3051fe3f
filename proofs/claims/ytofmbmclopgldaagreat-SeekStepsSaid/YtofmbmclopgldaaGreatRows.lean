/-
  No cell of these rows narrows 'for every input' (looked for: loops, veiled, ifaces, maps, wideKeys, modest, calm, conditions, laid).
  DERIVED. THE GIVEN ROWS OF THIS SEAT. 5 by the template 'for every input the law returns true; each argument reads behind the call as it read before'; 0 by the template 'total and deterministic' (their statements: YtofmbmclopgldaaGreatTotals.lean).
  GIVEN WITH THE SEED: the statements are not yours to turn. If you find one false, say at which input.
  Laid BY PROGRAM, IN A SANDBOX (cutbox-rows.mjs): the forced cells as the released guide's own fill.sh prints them over the translation f9b8637680bcbd68… (all of the seat's roots in one cut). By AI agents, Wed Nov 11 2026. No macro, syntax, notation, axiom, sorry.
-/
import Derived.Test.YtofmbmclopgldaaGreatChecked
import GoSem.Claim
import GoSem.ClaimJoined
import GoSem.ClaimMapViews
import Derived.JoinedTies
import Derived.KernelRfl
namespace Go.Proofs.YtofmbmclopgldaaGreat
/- THE CELL 'sum', in the pinned program and in every row, IS THE sha256 OF THE DUMP (.gsa) THAT YtofmbmclopgldaaGreatProg.lean LOADS. Nothing in Lean hashes anything: it is a label: what it is worth is what the hold of that sum in a sandbox is worth. -/
noncomputable def Tryz.pinned : Pinned := { name := "ytofmbmclopgldaagreat", sum := "f9b8637680bcbd6811bde1d324473349bc3e125a13e2b318d59f5c87e5a6ffaa", checked := Tryz.checked }
namespace Rows
def none {H : Type} : Left H := { results := [], args := [] }

/-- 'leapfroglaw23.BaseNew': WHATEVER THE INPUT: true; the input reads as it did. -/
def baseNewSpec : ChangeSpec := { name := "baseNew", fn := fun _ => fun
  | [d] => { results := [.lit (.bool true)], args := [d] }
  | _ => none }
def baseNewRow : OpenClaim := { program := "ytofmbmclopgldaagreat", sum := "f9b8637680bcbd6811bde1d324473349bc3e125a13e2b318d59f5c87e5a6ffaa", func := "leapfrog/leapfroglaw23.BaseNew", spec := "baseNew", inPlace := ["sync/atomic.StoreUint64", "sync/atomic.LoadUint64", "sync/atomic.CompareAndSwapUint64", "sync/atomic.SwapUint64"], unfollowed := true, recurses := true, apart := false }
def BaseNewSaid : Prop := baseNewRow.holds Tryz.pinned (OpenSpec.ofChange baseNewSpec)

/-- ITS FALSE NEIGHBOUR: 'it returns false'. Refute it at one input. -/
def baseNewWrong : ChangeSpec := { name := "baseNew", fn := fun _ => fun
  | [d] => { results := [.lit (.bool false)], args := [d] }
  | _ => none }
def BaseNewWrongFalsely : Prop := baseNewRow.holds Tryz.pinned (OpenSpec.ofChange baseNewWrong)

/-- 'leapfroglaw24.SeekMatches': WHATEVER THE INPUT: true; the input reads as it did. -/
def seekMatchesSpec : ChangeSpec := { name := "seekMatches", fn := fun _ => fun
  | [d1, d2, d3, d4] => { results := [.lit (.bool true)], args := [d1, d2, d3, d4] }
  | _ => none }
def seekMatchesRow : OpenClaim := { program := "ytofmbmclopgldaagreat", sum := "f9b8637680bcbd6811bde1d324473349bc3e125a13e2b318d59f5c87e5a6ffaa", func := "leapfrog/leapfroglaw24.SeekMatches", spec := "seekMatches", inPlace := ["sync/atomic.StoreUint64", "sync/atomic.LoadUint64", "sync/atomic.CompareAndSwapUint64", "sync/atomic.SwapUint64"], unfollowed := true, recurses := true, apart := false }
def SeekMatchesSaid : Prop := seekMatchesRow.holds Tryz.pinned (OpenSpec.ofChange seekMatchesSpec)

/-- ITS FALSE NEIGHBOUR: 'it returns false'. Refute it at one input. -/
def seekMatchesWrong : ChangeSpec := { name := "seekMatches", fn := fun _ => fun
  | [d1, d2, d3, d4] => { results := [.lit (.bool false)], args := [d1, d2, d3, d4] }
  | _ => none }
def SeekMatchesWrongFalsely : Prop := seekMatchesRow.holds Tryz.pinned (OpenSpec.ofChange seekMatchesWrong)

/-- 'leapfroglaw24.SeekApart': WHATEVER THE INPUT: true; the input reads as it did. -/
def seekApartSpec : ChangeSpec := { name := "seekApart", fn := fun _ => fun
  | [d1, d2, d3, d4] => { results := [.lit (.bool true)], args := [d1, d2, d3, d4] }
  | _ => none }
def seekApartRow : OpenClaim := { program := "ytofmbmclopgldaagreat", sum := "f9b8637680bcbd6811bde1d324473349bc3e125a13e2b318d59f5c87e5a6ffaa", func := "leapfrog/leapfroglaw24.SeekApart", spec := "seekApart", inPlace := ["sync/atomic.StoreUint64", "sync/atomic.LoadUint64", "sync/atomic.CompareAndSwapUint64", "sync/atomic.SwapUint64"], unfollowed := true, recurses := true, apart := false }
def SeekApartSaid : Prop := seekApartRow.holds Tryz.pinned (OpenSpec.ofChange seekApartSpec)

/-- ITS FALSE NEIGHBOUR: 'it returns false'. Refute it at one input. -/
def seekApartWrong : ChangeSpec := { name := "seekApart", fn := fun _ => fun
  | [d1, d2, d3, d4] => { results := [.lit (.bool false)], args := [d1, d2, d3, d4] }
  | _ => none }
def SeekApartWrongFalsely : Prop := seekApartRow.holds Tryz.pinned (OpenSpec.ofChange seekApartWrong)

/-- 'leapfroglaw24.SeekFinds': WHATEVER THE INPUT: true; the input reads as it did. -/
def seekFindsSpec : ChangeSpec := { name := "seekFinds", fn := fun _ => fun
  | [d1, d2, d3, d4] => { results := [.lit (.bool true)], args := [d1, d2, d3, d4] }
  | _ => none }
def seekFindsRow : OpenClaim := { program := "ytofmbmclopgldaagreat", sum := "f9b8637680bcbd6811bde1d324473349bc3e125a13e2b318d59f5c87e5a6ffaa", func := "leapfrog/leapfroglaw24.SeekFinds", spec := "seekFinds", inPlace := ["sync/atomic.StoreUint64", "sync/atomic.LoadUint64", "sync/atomic.CompareAndSwapUint64", "sync/atomic.SwapUint64"], unfollowed := true, recurses := true, apart := false }
def SeekFindsSaid : Prop := seekFindsRow.holds Tryz.pinned (OpenSpec.ofChange seekFindsSpec)

/-- ITS FALSE NEIGHBOUR: 'it returns false'. Refute it at one input. -/
def seekFindsWrong : ChangeSpec := { name := "seekFinds", fn := fun _ => fun
  | [d1, d2, d3, d4] => { results := [.lit (.bool false)], args := [d1, d2, d3, d4] }
  | _ => none }
def SeekFindsWrongFalsely : Prop := seekFindsRow.holds Tryz.pinned (OpenSpec.ofChange seekFindsWrong)

/-- 'leapfroglaw24.SeekSteps': WHATEVER THE INPUT: true; the input reads as it did. -/
def seekStepsSpec : ChangeSpec := { name := "seekSteps", fn := fun _ => fun
  | [d1, d2, d3] => { results := [.lit (.bool true)], args := [d1, d2, d3] }
  | _ => none }
def seekStepsRow : OpenClaim := { program := "ytofmbmclopgldaagreat", sum := "f9b8637680bcbd6811bde1d324473349bc3e125a13e2b318d59f5c87e5a6ffaa", func := "leapfrog/leapfroglaw24.SeekSteps", spec := "seekSteps", inPlace := ["sync/atomic.StoreUint64", "sync/atomic.LoadUint64", "sync/atomic.CompareAndSwapUint64", "sync/atomic.SwapUint64"], unfollowed := true, recurses := true, apart := false }
def SeekStepsSaid : Prop := seekStepsRow.holds Tryz.pinned (OpenSpec.ofChange seekStepsSpec)

/-- ITS FALSE NEIGHBOUR: 'it returns false'. Refute it at one input. -/
def seekStepsWrong : ChangeSpec := { name := "seekSteps", fn := fun _ => fun
  | [d1, d2, d3] => { results := [.lit (.bool false)], args := [d1, d2, d3] }
  | _ => none }
def SeekStepsWrongFalsely : Prop := seekStepsRow.holds Tryz.pinned (OpenSpec.ofChange seekStepsWrong)

/- THE SECOND FORM. 'bulk': how many values and letters a reading holds, each counted each time it is reached (what is shared counts as often as it is met; a slice's spare places count too). A statement '..UptoSaid' is the law's where the arguments, and the package variables that the reading takes, are together of bulk at most 1048576: NARROWER than '..Said'. Prove '..Said' where nothing that the law and all that it calls make is longer than what came in: it says more and counts as full. Else prove '..UptoSaid'. A law counts once. -/
mutual
def uptoBulk {H : Type} : DataW H → Nat
  | .lit (.string bytes) => bytes.length + 1
  | .lit _ => 1
  | .nil => 1
  | .ptr d => uptoBulk d + 1
  | .slice elems spare => uptoBulkAll elems + uptoBulkAll spare + 1
  | .agg parts => uptoBulkAll parts + 1
  | .iface _ d => uptoBulk d + 1
  | .map entries => uptoBulkEntries entries + 1
  | .held _ => 1
def uptoBulkAll {H : Type} : List (DataW H) → Nat
  | [] => 0
  | d :: r => uptoBulk d + uptoBulkAll r
def uptoBulkEntries {H : Type} : List (Lit × DataW H) → Nat
  | [] => 0
  | x :: r => uptoBulkEntry x + uptoBulkEntries r
def uptoBulkEntry {H : Type} : Lit × DataW H → Nat
  | (.string bytes, d) => bytes.length + uptoBulk d + 1
  | (_, d) => uptoBulk d + 1
 end
def uptoSmall : (H : Type) → List (DataW H) → Bool := fun _ ds => decide (uptoBulkAll ds ≤ 1048576)
def OpenSpec.upto (s : _root_.Go.ChangeSpec) : _root_.Go.OpenSpec := { _root_.Go.OpenSpec.ofChange s with cond := some uptoSmall }

/-- 'leapfroglaw23.BaseNew', WHERE WHAT IT READS IS OF BULK AT MOST 1048576: true; the input reads as it did. -/
def baseNewUptoRow : OpenClaim := { program := "ytofmbmclopgldaagreat", sum := "f9b8637680bcbd6811bde1d324473349bc3e125a13e2b318d59f5c87e5a6ffaa", func := "leapfrog/leapfroglaw23.BaseNew", spec := "baseNew", inPlace := ["sync/atomic.StoreUint64", "sync/atomic.LoadUint64", "sync/atomic.CompareAndSwapUint64", "sync/atomic.SwapUint64"], unfollowed := true, recurses := true, apart := false, narrowed := true }
def BaseNewUptoSaid : Prop := baseNewUptoRow.holds Tryz.pinned (OpenSpec.upto baseNewSpec)

/-- 'leapfroglaw24.SeekMatches', WHERE WHAT IT READS IS OF BULK AT MOST 1048576: true; the input reads as it did. -/
def seekMatchesUptoRow : OpenClaim := { program := "ytofmbmclopgldaagreat", sum := "f9b8637680bcbd6811bde1d324473349bc3e125a13e2b318d59f5c87e5a6ffaa", func := "leapfrog/leapfroglaw24.SeekMatches", spec := "seekMatches", inPlace := ["sync/atomic.StoreUint64", "sync/atomic.LoadUint64", "sync/atomic.CompareAndSwapUint64", "sync/atomic.SwapUint64"], unfollowed := true, recurses := true, apart := false, narrowed := true }
def SeekMatchesUptoSaid : Prop := seekMatchesUptoRow.holds Tryz.pinned (OpenSpec.upto seekMatchesSpec)

/-- 'leapfroglaw24.SeekApart', WHERE WHAT IT READS IS OF BULK AT MOST 1048576: true; the input reads as it did. -/
def seekApartUptoRow : OpenClaim := { program := "ytofmbmclopgldaagreat", sum := "f9b8637680bcbd6811bde1d324473349bc3e125a13e2b318d59f5c87e5a6ffaa", func := "leapfrog/leapfroglaw24.SeekApart", spec := "seekApart", inPlace := ["sync/atomic.StoreUint64", "sync/atomic.LoadUint64", "sync/atomic.CompareAndSwapUint64", "sync/atomic.SwapUint64"], unfollowed := true, recurses := true, apart := false, narrowed := true }
def SeekApartUptoSaid : Prop := seekApartUptoRow.holds Tryz.pinned (OpenSpec.upto seekApartSpec)

/-- 'leapfroglaw24.SeekFinds', WHERE WHAT IT READS IS OF BULK AT MOST 1048576: true; the input reads as it did. -/
def seekFindsUptoRow : OpenClaim := { program := "ytofmbmclopgldaagreat", sum := "f9b8637680bcbd6811bde1d324473349bc3e125a13e2b318d59f5c87e5a6ffaa", func := "leapfrog/leapfroglaw24.SeekFinds", spec := "seekFinds", inPlace := ["sync/atomic.StoreUint64", "sync/atomic.LoadUint64", "sync/atomic.CompareAndSwapUint64", "sync/atomic.SwapUint64"], unfollowed := true, recurses := true, apart := false, narrowed := true }
def SeekFindsUptoSaid : Prop := seekFindsUptoRow.holds Tryz.pinned (OpenSpec.upto seekFindsSpec)

/-- 'leapfroglaw24.SeekSteps', WHERE WHAT IT READS IS OF BULK AT MOST 1048576: true; the input reads as it did. -/
def seekStepsUptoRow : OpenClaim := { program := "ytofmbmclopgldaagreat", sum := "f9b8637680bcbd6811bde1d324473349bc3e125a13e2b318d59f5c87e5a6ffaa", func := "leapfrog/leapfroglaw24.SeekSteps", spec := "seekSteps", inPlace := ["sync/atomic.StoreUint64", "sync/atomic.LoadUint64", "sync/atomic.CompareAndSwapUint64", "sync/atomic.SwapUint64"], unfollowed := true, recurses := true, apart := false, narrowed := true }
def SeekStepsUptoSaid : Prop := seekStepsUptoRow.holds Tryz.pinned (OpenSpec.upto seekStepsSpec)

end Rows
end Go.Proofs.YtofmbmclopgldaaGreat
