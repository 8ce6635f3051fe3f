/-
  No cell of these rows narrows 'for every input' (looked for: loops, veiled, ifaces, maps, wideKeys, modest, calm, conditions, laid).
  DERIVED. THE GIVEN ROWS OF THIS SEAT. 4 by the template 'for every input the law returns true; each argument reads behind the call as it read before'; 0 by the template 'total and deterministic' (their statements: YtknelmeaegldmaaTotals.lean).
  GIVEN WITH THE SEED: the statements are not yours to turn. If you find one false, say at which input.
  Laid BY PROGRAM, IN A SANDBOX (cutbox-rows.mjs): the forced cells as the released guide's own fill.sh prints them over the translation 8355fe01da9542ac… (all of the seat's roots in one cut). By AI agents, Wed Nov 11 2026. No macro, syntax, notation, axiom, sorry.
-/
import Derived.Test.YtknelmeaegldmaaChecked
import GoSem.Claim
import GoSem.ClaimJoined
import GoSem.ClaimMapViews
import Derived.JoinedTies
import Derived.KernelRfl
namespace Go.Proofs.Ytknelmeaegldmaa
/- THE CELL 'sum', in the pinned program and in every row, IS THE sha256 OF THE DUMP (.gsa) THAT YtknelmeaegldmaaProg.lean LOADS. Nothing in Lean hashes anything: it is a label: what it is worth is what the hold of that sum in a sandbox is worth. -/
noncomputable def Try.pinned : Pinned := { name := "ytknelmeaegldmaa", sum := "8355fe01da9542ac04fdbb9ba325388712dfcbedaa28296e4a5ec843c6fe6963", checked := Try.checked }
namespace Rows
def none {H : Type} : Left H := { results := [], args := [] }

/-- 'leapfroglaw22.StallNumbers': WHATEVER THE INPUT: true; the input reads as it did. -/
def stallNumbersSpec : ChangeSpec := { name := "stallNumbers", fn := fun _ => fun
  | [d1, d2, d3] => { results := [.lit (.bool true)], args := [d1, d2, d3] }
  | _ => none }
def stallNumbersRow : OpenClaim := { program := "ytknelmeaegldmaa", sum := "8355fe01da9542ac04fdbb9ba325388712dfcbedaa28296e4a5ec843c6fe6963", func := "leapfrog/leapfroglaw22.StallNumbers", spec := "stallNumbers", unfollowed := true, recurses := true, apart := false }
def StallNumbersSaid : Prop := stallNumbersRow.holds Try.pinned (OpenSpec.ofChange stallNumbersSpec)

/-- ITS FALSE NEIGHBOUR: 'it returns false'. Refute it at one input. -/
def stallNumbersWrong : ChangeSpec := { name := "stallNumbers", fn := fun _ => fun
  | [d1, d2, d3] => { results := [.lit (.bool false)], args := [d1, d2, d3] }
  | _ => none }
def StallNumbersWrongFalsely : Prop := stallNumbersRow.holds Try.pinned (OpenSpec.ofChange stallNumbersWrong)

/-- 'leapfroglaw22.StallMatches': WHATEVER THE INPUT: true; the input reads as it did. -/
def stallMatchesSpec : ChangeSpec := { name := "stallMatches", fn := fun _ => fun
  | [d1, d2, d3, d4] => { results := [.lit (.bool true)], args := [d1, d2, d3, d4] }
  | _ => none }
def stallMatchesRow : OpenClaim := { program := "ytknelmeaegldmaa", sum := "8355fe01da9542ac04fdbb9ba325388712dfcbedaa28296e4a5ec843c6fe6963", func := "leapfrog/leapfroglaw22.StallMatches", spec := "stallMatches", unfollowed := true, recurses := true, apart := false }
def StallMatchesSaid : Prop := stallMatchesRow.holds Try.pinned (OpenSpec.ofChange stallMatchesSpec)

/-- ITS FALSE NEIGHBOUR: 'it returns false'. Refute it at one input. -/
def stallMatchesWrong : ChangeSpec := { name := "stallMatches", fn := fun _ => fun
  | [d1, d2, d3, d4] => { results := [.lit (.bool false)], args := [d1, d2, d3, d4] }
  | _ => none }
def StallMatchesWrongFalsely : Prop := stallMatchesRow.holds Try.pinned (OpenSpec.ofChange stallMatchesWrong)

/-- 'leapfroglaw22.StallOrder': WHATEVER THE INPUT: true; the input reads as it did. -/
def stallOrderSpec : ChangeSpec := { name := "stallOrder", fn := fun _ => fun
  | [d1, d2, d3, d4, d5] => { results := [.lit (.bool true)], args := [d1, d2, d3, d4, d5] }
  | _ => none }
def stallOrderRow : OpenClaim := { program := "ytknelmeaegldmaa", sum := "8355fe01da9542ac04fdbb9ba325388712dfcbedaa28296e4a5ec843c6fe6963", func := "leapfrog/leapfroglaw22.StallOrder", spec := "stallOrder", unfollowed := true, recurses := true, apart := false }
def StallOrderSaid : Prop := stallOrderRow.holds Try.pinned (OpenSpec.ofChange stallOrderSpec)

/-- ITS FALSE NEIGHBOUR: 'it returns false'. Refute it at one input. -/
def stallOrderWrong : ChangeSpec := { name := "stallOrder", fn := fun _ => fun
  | [d1, d2, d3, d4, d5] => { results := [.lit (.bool false)], args := [d1, d2, d3, d4, d5] }
  | _ => none }
def StallOrderWrongFalsely : Prop := stallOrderRow.holds Try.pinned (OpenSpec.ofChange stallOrderWrong)

/-- 'leapfroglaw22.StallLater': WHATEVER THE INPUT: true; the input reads as it did. -/
def stallLaterSpec : ChangeSpec := { name := "stallLater", fn := fun _ => fun
  | [d1, d2, d3, d4, d5] => { results := [.lit (.bool true)], args := [d1, d2, d3, d4, d5] }
  | _ => none }
def stallLaterRow : OpenClaim := { program := "ytknelmeaegldmaa", sum := "8355fe01da9542ac04fdbb9ba325388712dfcbedaa28296e4a5ec843c6fe6963", func := "leapfrog/leapfroglaw22.StallLater", spec := "stallLater", unfollowed := true, recurses := true, apart := false }
def StallLaterSaid : Prop := stallLaterRow.holds Try.pinned (OpenSpec.ofChange stallLaterSpec)

/-- ITS FALSE NEIGHBOUR: 'it returns false'. Refute it at one input. -/
def stallLaterWrong : ChangeSpec := { name := "stallLater", fn := fun _ => fun
  | [d1, d2, d3, d4, d5] => { results := [.lit (.bool false)], args := [d1, d2, d3, d4, d5] }
  | _ => none }
def StallLaterWrongFalsely : Prop := stallLaterRow.holds Try.pinned (OpenSpec.ofChange stallLaterWrong)

/- THE SECOND FORM. 'bulk': how many values and letters a reading holds, each counted each time it is reached (what is shared counts as often as it is met; a slice's spare places count too). A statement '..UptoSaid' is the law's where the arguments, and the package variables that the reading takes, are together of bulk at most 1048576: NARROWER than '..Said'. Prove '..Said' where nothing that the law and all that it calls make is longer than what came in: it says more and counts as full. Else prove '..UptoSaid'. A law counts once. -/
mutual
def uptoBulk {H : Type} : DataW H → Nat
  | .lit (.string bytes) => bytes.length + 1
  | .lit _ => 1
  | .nil => 1
  | .ptr d => uptoBulk d + 1
  | .slice elems spare => uptoBulkAll elems + uptoBulkAll spare + 1
  | .agg parts => uptoBulkAll parts + 1
  | .iface _ d => uptoBulk d + 1
  | .map entries => uptoBulkEntries entries + 1
  | .held _ => 1
def uptoBulkAll {H : Type} : List (DataW H) → Nat
  | [] => 0
  | d :: r => uptoBulk d + uptoBulkAll r
def uptoBulkEntries {H : Type} : List (Lit × DataW H) → Nat
  | [] => 0
  | x :: r => uptoBulkEntry x + uptoBulkEntries r
def uptoBulkEntry {H : Type} : Lit × DataW H → Nat
  | (.string bytes, d) => bytes.length + uptoBulk d + 1
  | (_, d) => uptoBulk d + 1
 end
def uptoSmall : (H : Type) → List (DataW H) → Bool := fun _ ds => decide (uptoBulkAll ds ≤ 1048576)
def OpenSpec.upto (s : _root_.Go.ChangeSpec) : _root_.Go.OpenSpec := { _root_.Go.OpenSpec.ofChange s with cond := some uptoSmall }

/-- 'leapfroglaw22.StallNumbers', WHERE WHAT IT READS IS OF BULK AT MOST 1048576: true; the input reads as it did. -/
def stallNumbersUptoRow : OpenClaim := { program := "ytknelmeaegldmaa", sum := "8355fe01da9542ac04fdbb9ba325388712dfcbedaa28296e4a5ec843c6fe6963", func := "leapfrog/leapfroglaw22.StallNumbers", spec := "stallNumbers", unfollowed := true, recurses := true, apart := false, narrowed := true }
def StallNumbersUptoSaid : Prop := stallNumbersUptoRow.holds Try.pinned (OpenSpec.upto stallNumbersSpec)

/-- 'leapfroglaw22.StallMatches', WHERE WHAT IT READS IS OF BULK AT MOST 1048576: true; the input reads as it did. -/
def stallMatchesUptoRow : OpenClaim := { program := "ytknelmeaegldmaa", sum := "8355fe01da9542ac04fdbb9ba325388712dfcbedaa28296e4a5ec843c6fe6963", func := "leapfrog/leapfroglaw22.StallMatches", spec := "stallMatches", unfollowed := true, recurses := true, apart := false, narrowed := true }
def StallMatchesUptoSaid : Prop := stallMatchesUptoRow.holds Try.pinned (OpenSpec.upto stallMatchesSpec)

/-- 'leapfroglaw22.StallOrder', WHERE WHAT IT READS IS OF BULK AT MOST 1048576: true; the input reads as it did. -/
def stallOrderUptoRow : OpenClaim := { program := "ytknelmeaegldmaa", sum := "8355fe01da9542ac04fdbb9ba325388712dfcbedaa28296e4a5ec843c6fe6963", func := "leapfrog/leapfroglaw22.StallOrder", spec := "stallOrder", unfollowed := true, recurses := true, apart := false, narrowed := true }
def StallOrderUptoSaid : Prop := stallOrderUptoRow.holds Try.pinned (OpenSpec.upto stallOrderSpec)

/-- 'leapfroglaw22.StallLater', WHERE WHAT IT READS IS OF BULK AT MOST 1048576: true; the input reads as it did. -/
def stallLaterUptoRow : OpenClaim := { program := "ytknelmeaegldmaa", sum := "8355fe01da9542ac04fdbb9ba325388712dfcbedaa28296e4a5ec843c6fe6963", func := "leapfrog/leapfroglaw22.StallLater", spec := "stallLater", unfollowed := true, recurses := true, apart := false, narrowed := true }
def StallLaterUptoSaid : Prop := stallLaterUptoRow.holds Try.pinned (OpenSpec.upto stallLaterSpec)

end Rows
end Go.Proofs.Ytknelmeaegldmaa
