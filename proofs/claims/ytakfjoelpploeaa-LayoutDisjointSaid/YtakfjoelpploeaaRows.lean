/-
  No cell of these rows narrows 'for every input' (looked for: loops, veiled, ifaces, maps, wideKeys, modest, calm, conditions, laid).
  DERIVED. THE GIVEN ROWS OF THIS SEAT. 8 by the template 'for every input the law returns true; each argument reads behind the call as it read before'; 0 by the template 'total and deterministic' (their statements: YtakfjoelpploeaaTotals.lean).
  GIVEN WITH THE SEED: the statements are not yours to turn. If you find one false, say at which input.
  Laid BY PROGRAM, IN A SANDBOX (cutbox-rows.mjs): the forced cells as the released guide's own fill.sh prints them over the translation 67fae0dd98cde1d9… (all of the seat's roots in one cut). By AI agents, Wed Nov 11 2026. No macro, syntax, notation, axiom, sorry.
-/
import Derived.Test.YtakfjoelpploeaaChecked
import GoSem.Claim
import GoSem.ClaimJoined
import GoSem.ClaimMapViews
import Derived.JoinedTies
import Derived.KernelRfl
namespace Go.Proofs.Ytakfjoelpploeaa
/- THE CELL 'sum', in the pinned program and in every row, IS THE sha256 OF THE DUMP (.gsa) THAT YtakfjoelpploeaaProg.lean LOADS. Nothing in Lean hashes anything: it is a label: what it is worth is what the hold of that sum in a sandbox is worth. -/
noncomputable def Try.pinned : Pinned := { name := "ytakfjoelpploeaa", sum := "67fae0dd98cde1d93d5a1809fce04ffeb0373c69b457cea92b822b8ba6bffc48", checked := Try.checked }
namespace Rows
def none {H : Type} : Left H := { results := [], args := [] }

/-- 'leapfroglaw19.PrcuWords': WHATEVER THE INPUT: true; the input reads as it did. -/
def prcuWordsSpec : ChangeSpec := { name := "prcuWords", fn := fun _ => fun
  | [d1, d2, d3] => { results := [.lit (.bool true)], args := [d1, d2, d3] }
  | _ => none }
def prcuWordsRow : OpenClaim := { program := "ytakfjoelpploeaa", sum := "67fae0dd98cde1d93d5a1809fce04ffeb0373c69b457cea92b822b8ba6bffc48", func := "leapfrog/leapfroglaw19.PrcuWords", spec := "prcuWords", plainKeys := false, apart := false }
def PrcuWordsSaid : Prop := prcuWordsRow.holds Try.pinned (OpenSpec.ofChange prcuWordsSpec)

/-- ITS FALSE NEIGHBOUR: 'it returns false'. Refute it at one input. -/
def prcuWordsWrong : ChangeSpec := { name := "prcuWords", fn := fun _ => fun
  | [d1, d2, d3] => { results := [.lit (.bool false)], args := [d1, d2, d3] }
  | _ => none }
def PrcuWordsWrongFalsely : Prop := prcuWordsRow.holds Try.pinned (OpenSpec.ofChange prcuWordsWrong)

/-- 'leapfroglaw09.LayoutChecks': WHATEVER THE INPUT: true; the input reads as it did. -/
def layoutChecksSpec : ChangeSpec := { name := "layoutChecks", fn := fun _ => fun
  | [d] => { results := [.lit (.bool true)], args := [d] }
  | _ => none }
def layoutChecksRow : OpenClaim := { program := "ytakfjoelpploeaa", sum := "67fae0dd98cde1d93d5a1809fce04ffeb0373c69b457cea92b822b8ba6bffc48", func := "leapfrog/leapfroglaw09.LayoutChecks", spec := "layoutChecks", unfollowed := true, recurses := true, plainKeys := false, apart := false }
def LayoutChecksSaid : Prop := layoutChecksRow.holds Try.pinned (OpenSpec.ofChange layoutChecksSpec)

/-- ITS FALSE NEIGHBOUR: 'it returns false'. Refute it at one input. -/
def layoutChecksWrong : ChangeSpec := { name := "layoutChecks", fn := fun _ => fun
  | [d] => { results := [.lit (.bool false)], args := [d] }
  | _ => none }
def LayoutChecksWrongFalsely : Prop := layoutChecksRow.holds Try.pinned (OpenSpec.ofChange layoutChecksWrong)

/-- 'leapfroglaw09.LayoutInitial': WHATEVER THE INPUT: true; the input reads as it did. -/
def layoutInitialSpec : ChangeSpec := { name := "layoutInitial", fn := fun _ => fun
  | [d] => { results := [.lit (.bool true)], args := [d] }
  | _ => none }
def layoutInitialRow : OpenClaim := { program := "ytakfjoelpploeaa", sum := "67fae0dd98cde1d93d5a1809fce04ffeb0373c69b457cea92b822b8ba6bffc48", func := "leapfrog/leapfroglaw09.LayoutInitial", spec := "layoutInitial", unfollowed := true, recurses := true, plainKeys := false, apart := false }
def LayoutInitialSaid : Prop := layoutInitialRow.holds Try.pinned (OpenSpec.ofChange layoutInitialSpec)

/-- ITS FALSE NEIGHBOUR: 'it returns false'. Refute it at one input. -/
def layoutInitialWrong : ChangeSpec := { name := "layoutInitial", fn := fun _ => fun
  | [d] => { results := [.lit (.bool false)], args := [d] }
  | _ => none }
def LayoutInitialWrongFalsely : Prop := layoutInitialRow.holds Try.pinned (OpenSpec.ofChange layoutInitialWrong)

/-- 'leapfroglaw09.LayoutPlaces': WHATEVER THE INPUT: true; the input reads as it did. -/
def layoutPlacesSpec : ChangeSpec := { name := "layoutPlaces", fn := fun _ => fun
  | [d1, d2] => { results := [.lit (.bool true)], args := [d1, d2] }
  | _ => none }
def layoutPlacesRow : OpenClaim := { program := "ytakfjoelpploeaa", sum := "67fae0dd98cde1d93d5a1809fce04ffeb0373c69b457cea92b822b8ba6bffc48", func := "leapfrog/leapfroglaw09.LayoutPlaces", spec := "layoutPlaces", unfollowed := true, recurses := true, plainKeys := false, apart := false }
def LayoutPlacesSaid : Prop := layoutPlacesRow.holds Try.pinned (OpenSpec.ofChange layoutPlacesSpec)

/-- ITS FALSE NEIGHBOUR: 'it returns false'. Refute it at one input. -/
def layoutPlacesWrong : ChangeSpec := { name := "layoutPlaces", fn := fun _ => fun
  | [d1, d2] => { results := [.lit (.bool false)], args := [d1, d2] }
  | _ => none }
def LayoutPlacesWrongFalsely : Prop := layoutPlacesRow.holds Try.pinned (OpenSpec.ofChange layoutPlacesWrong)

/-- 'leapfroglaw09.LayoutHeights': WHATEVER THE INPUT: true; the input reads as it did. -/
def layoutHeightsSpec : ChangeSpec := { name := "layoutHeights", fn := fun _ => fun
  | [d] => { results := [.lit (.bool true)], args := [d] }
  | _ => none }
def layoutHeightsRow : OpenClaim := { program := "ytakfjoelpploeaa", sum := "67fae0dd98cde1d93d5a1809fce04ffeb0373c69b457cea92b822b8ba6bffc48", func := "leapfrog/leapfroglaw09.LayoutHeights", spec := "layoutHeights", unfollowed := true, recurses := true, plainKeys := false, apart := false }
def LayoutHeightsSaid : Prop := layoutHeightsRow.holds Try.pinned (OpenSpec.ofChange layoutHeightsSpec)

/-- ITS FALSE NEIGHBOUR: 'it returns false'. Refute it at one input. -/
def layoutHeightsWrong : ChangeSpec := { name := "layoutHeights", fn := fun _ => fun
  | [d] => { results := [.lit (.bool false)], args := [d] }
  | _ => none }
def LayoutHeightsWrongFalsely : Prop := layoutHeightsRow.holds Try.pinned (OpenSpec.ofChange layoutHeightsWrong)

/-- 'leapfroglaw09.LayoutLists': WHATEVER THE INPUT: true; the input reads as it did. -/
def layoutListsSpec : ChangeSpec := { name := "layoutLists", fn := fun _ => fun
  | [d] => { results := [.lit (.bool true)], args := [d] }
  | _ => none }
def layoutListsRow : OpenClaim := { program := "ytakfjoelpploeaa", sum := "67fae0dd98cde1d93d5a1809fce04ffeb0373c69b457cea92b822b8ba6bffc48", func := "leapfrog/leapfroglaw09.LayoutLists", spec := "layoutLists", unfollowed := true, recurses := true, plainKeys := false, apart := false }
def LayoutListsSaid : Prop := layoutListsRow.holds Try.pinned (OpenSpec.ofChange layoutListsSpec)

/-- ITS FALSE NEIGHBOUR: 'it returns false'. Refute it at one input. -/
def layoutListsWrong : ChangeSpec := { name := "layoutLists", fn := fun _ => fun
  | [d] => { results := [.lit (.bool false)], args := [d] }
  | _ => none }
def LayoutListsWrongFalsely : Prop := layoutListsRow.holds Try.pinned (OpenSpec.ofChange layoutListsWrong)

/-- 'leapfroglaw09.LayoutDisjoint': WHATEVER THE INPUT: true; the input reads as it did. -/
def layoutDisjointSpec : ChangeSpec := { name := "layoutDisjoint", fn := fun _ => fun
  | [d] => { results := [.lit (.bool true)], args := [d] }
  | _ => none }
def layoutDisjointRow : OpenClaim := { program := "ytakfjoelpploeaa", sum := "67fae0dd98cde1d93d5a1809fce04ffeb0373c69b457cea92b822b8ba6bffc48", func := "leapfrog/leapfroglaw09.LayoutDisjoint", spec := "layoutDisjoint", unfollowed := true, recurses := true, plainKeys := false, apart := false }
def LayoutDisjointSaid : Prop := layoutDisjointRow.holds Try.pinned (OpenSpec.ofChange layoutDisjointSpec)

/-- ITS FALSE NEIGHBOUR: 'it returns false'. Refute it at one input. -/
def layoutDisjointWrong : ChangeSpec := { name := "layoutDisjoint", fn := fun _ => fun
  | [d] => { results := [.lit (.bool false)], args := [d] }
  | _ => none }
def LayoutDisjointWrongFalsely : Prop := layoutDisjointRow.holds Try.pinned (OpenSpec.ofChange layoutDisjointWrong)

/-- 'leapfroglaw09.LayoutExamples': WHATEVER THE INPUT: true; the input reads as it did. -/
def layoutExamplesSpec : ChangeSpec := { name := "layoutExamples", fn := fun _ => fun
  | [] => { results := [.lit (.bool true)], args := [] }
  | _ => none }
def layoutExamplesRow : OpenClaim := { program := "ytakfjoelpploeaa", sum := "67fae0dd98cde1d93d5a1809fce04ffeb0373c69b457cea92b822b8ba6bffc48", func := "leapfrog/leapfroglaw09.LayoutExamples", spec := "layoutExamples", unfollowed := true, recurses := true, plainKeys := false, apart := false }
def LayoutExamplesSaid : Prop := layoutExamplesRow.holds Try.pinned (OpenSpec.ofChange layoutExamplesSpec)

/-- ITS FALSE NEIGHBOUR: 'it returns false'. Refute it at one input. -/
def layoutExamplesWrong : ChangeSpec := { name := "layoutExamples", fn := fun _ => fun
  | [] => { results := [.lit (.bool false)], args := [] }
  | _ => none }
def LayoutExamplesWrongFalsely : Prop := layoutExamplesRow.holds Try.pinned (OpenSpec.ofChange layoutExamplesWrong)

/- THE SECOND FORM. 'bulk': how many values and letters a reading holds, each counted each time it is reached (what is shared counts as often as it is met; a slice's spare places count too). A statement '..UptoSaid' is the law's where the arguments, and the package variables that the reading takes, are together of bulk at most 1048576: NARROWER than '..Said'. Prove '..Said' where nothing that the law and all that it calls make is longer than what came in: it says more and counts as full. Else prove '..UptoSaid'. A law counts once. -/
mutual
def uptoBulk {H : Type} : DataW H → Nat
  | .lit (.string bytes) => bytes.length + 1
  | .lit _ => 1
  | .nil => 1
  | .ptr d => uptoBulk d + 1
  | .slice elems spare => uptoBulkAll elems + uptoBulkAll spare + 1
  | .agg parts => uptoBulkAll parts + 1
  | .iface _ d => uptoBulk d + 1
  | .map entries => uptoBulkEntries entries + 1
  | .held _ => 1
def uptoBulkAll {H : Type} : List (DataW H) → Nat
  | [] => 0
  | d :: r => uptoBulk d + uptoBulkAll r
def uptoBulkEntries {H : Type} : List (Lit × DataW H) → Nat
  | [] => 0
  | x :: r => uptoBulkEntry x + uptoBulkEntries r
def uptoBulkEntry {H : Type} : Lit × DataW H → Nat
  | (.string bytes, d) => bytes.length + uptoBulk d + 1
  | (_, d) => uptoBulk d + 1
 end
def uptoSmall : (H : Type) → List (DataW H) → Bool := fun _ ds => decide (uptoBulkAll ds ≤ 1048576)
def OpenSpec.upto (s : _root_.Go.ChangeSpec) : _root_.Go.OpenSpec := { _root_.Go.OpenSpec.ofChange s with cond := some uptoSmall }

/-- 'leapfroglaw19.PrcuWords', WHERE WHAT IT READS IS OF BULK AT MOST 1048576: true; the input reads as it did. -/
def prcuWordsUptoRow : OpenClaim := { program := "ytakfjoelpploeaa", sum := "67fae0dd98cde1d93d5a1809fce04ffeb0373c69b457cea92b822b8ba6bffc48", func := "leapfrog/leapfroglaw19.PrcuWords", spec := "prcuWords", plainKeys := false, apart := false, narrowed := true }
def PrcuWordsUptoSaid : Prop := prcuWordsUptoRow.holds Try.pinned (OpenSpec.upto prcuWordsSpec)

/-- 'leapfroglaw09.LayoutChecks', WHERE WHAT IT READS IS OF BULK AT MOST 1048576: true; the input reads as it did. -/
def layoutChecksUptoRow : OpenClaim := { program := "ytakfjoelpploeaa", sum := "67fae0dd98cde1d93d5a1809fce04ffeb0373c69b457cea92b822b8ba6bffc48", func := "leapfrog/leapfroglaw09.LayoutChecks", spec := "layoutChecks", unfollowed := true, recurses := true, plainKeys := false, apart := false, narrowed := true }
def LayoutChecksUptoSaid : Prop := layoutChecksUptoRow.holds Try.pinned (OpenSpec.upto layoutChecksSpec)

/-- 'leapfroglaw09.LayoutInitial', WHERE WHAT IT READS IS OF BULK AT MOST 1048576: true; the input reads as it did. -/
def layoutInitialUptoRow : OpenClaim := { program := "ytakfjoelpploeaa", sum := "67fae0dd98cde1d93d5a1809fce04ffeb0373c69b457cea92b822b8ba6bffc48", func := "leapfrog/leapfroglaw09.LayoutInitial", spec := "layoutInitial", unfollowed := true, recurses := true, plainKeys := false, apart := false, narrowed := true }
def LayoutInitialUptoSaid : Prop := layoutInitialUptoRow.holds Try.pinned (OpenSpec.upto layoutInitialSpec)

/-- 'leapfroglaw09.LayoutPlaces', WHERE WHAT IT READS IS OF BULK AT MOST 1048576: true; the input reads as it did. -/
def layoutPlacesUptoRow : OpenClaim := { program := "ytakfjoelpploeaa", sum := "67fae0dd98cde1d93d5a1809fce04ffeb0373c69b457cea92b822b8ba6bffc48", func := "leapfrog/leapfroglaw09.LayoutPlaces", spec := "layoutPlaces", unfollowed := true, recurses := true, plainKeys := false, apart := false, narrowed := true }
def LayoutPlacesUptoSaid : Prop := layoutPlacesUptoRow.holds Try.pinned (OpenSpec.upto layoutPlacesSpec)

/-- 'leapfroglaw09.LayoutHeights', WHERE WHAT IT READS IS OF BULK AT MOST 1048576: true; the input reads as it did. -/
def layoutHeightsUptoRow : OpenClaim := { program := "ytakfjoelpploeaa", sum := "67fae0dd98cde1d93d5a1809fce04ffeb0373c69b457cea92b822b8ba6bffc48", func := "leapfrog/leapfroglaw09.LayoutHeights", spec := "layoutHeights", unfollowed := true, recurses := true, plainKeys := false, apart := false, narrowed := true }
def LayoutHeightsUptoSaid : Prop := layoutHeightsUptoRow.holds Try.pinned (OpenSpec.upto layoutHeightsSpec)

/-- 'leapfroglaw09.LayoutLists', WHERE WHAT IT READS IS OF BULK AT MOST 1048576: true; the input reads as it did. -/
def layoutListsUptoRow : OpenClaim := { program := "ytakfjoelpploeaa", sum := "67fae0dd98cde1d93d5a1809fce04ffeb0373c69b457cea92b822b8ba6bffc48", func := "leapfrog/leapfroglaw09.LayoutLists", spec := "layoutLists", unfollowed := true, recurses := true, plainKeys := false, apart := false, narrowed := true }
def LayoutListsUptoSaid : Prop := layoutListsUptoRow.holds Try.pinned (OpenSpec.upto layoutListsSpec)

/-- 'leapfroglaw09.LayoutDisjoint', WHERE WHAT IT READS IS OF BULK AT MOST 1048576: true; the input reads as it did. -/
def layoutDisjointUptoRow : OpenClaim := { program := "ytakfjoelpploeaa", sum := "67fae0dd98cde1d93d5a1809fce04ffeb0373c69b457cea92b822b8ba6bffc48", func := "leapfrog/leapfroglaw09.LayoutDisjoint", spec := "layoutDisjoint", unfollowed := true, recurses := true, plainKeys := false, apart := false, narrowed := true }
def LayoutDisjointUptoSaid : Prop := layoutDisjointUptoRow.holds Try.pinned (OpenSpec.upto layoutDisjointSpec)

/-- 'leapfroglaw09.LayoutExamples', WHERE WHAT IT READS IS OF BULK AT MOST 1048576: true; the input reads as it did. -/
def layoutExamplesUptoRow : OpenClaim := { program := "ytakfjoelpploeaa", sum := "67fae0dd98cde1d93d5a1809fce04ffeb0373c69b457cea92b822b8ba6bffc48", func := "leapfrog/leapfroglaw09.LayoutExamples", spec := "layoutExamples", unfollowed := true, recurses := true, plainKeys := false, apart := false, narrowed := true }
def LayoutExamplesUptoSaid : Prop := layoutExamplesUptoRow.holds Try.pinned (OpenSpec.upto layoutExamplesSpec)

end Rows
end Go.Proofs.Ytakfjoelpploeaa
