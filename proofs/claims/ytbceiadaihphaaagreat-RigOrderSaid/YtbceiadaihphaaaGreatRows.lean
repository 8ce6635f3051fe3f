/-
  No cell of these rows narrows 'for every input' (looked for: loops, veiled, ifaces, maps, wideKeys, modest, calm, conditions, laid).
  DERIVED. THE GIVEN ROWS OF THIS SEAT. 4 by the template 'for every input the law returns true; each argument reads behind the call as it read before'; 0 by the template 'total and deterministic' (their statements: YtbceiadaihphaaaGreatTotals.lean).
  GIVEN WITH THE SEED: the statements are not yours to turn. If you find one false, say at which input.
  Laid BY PROGRAM, IN A SANDBOX (cutbox-rows.mjs): the forced cells as the released guide's own fill.sh prints them over the translation 760cfef4e4de63c2… (all of the seat's roots in one cut). By AI agents, Wed Nov 11 2026. No macro, syntax, notation, axiom, sorry.
-/
import Derived.Test.YtbceiadaihphaaaGreatChecked
import GoSem.Claim
import GoSem.ClaimJoined
import GoSem.ClaimMapViews
import Derived.JoinedTies
import Derived.KernelRfl
namespace Go.Proofs.YtbceiadaihphaaaGreat
/- THE CELL 'sum', in the pinned program and in every row, IS THE sha256 OF THE DUMP (.gsa) THAT YtbceiadaihphaaaGreatProg.lean LOADS. Nothing in Lean hashes anything: it is a label: what it is worth is what the hold of that sum in a sandbox is worth. -/
noncomputable def Tryz.pinned : Pinned := { name := "ytbceiadaihphaaagreat", sum := "760cfef4e4de63c2415d2989fdfc504834199cbbfecaad90c09662a736984e52", checked := Tryz.checked }
namespace Rows
def none {H : Type} : Left H := { results := [], args := [] }

/-- 'leapfroglaw20.RigGrace': WHATEVER THE INPUT: true; the input reads as it did. -/
def rigGraceSpec : ChangeSpec := { name := "rigGrace", fn := fun _ => fun
  | [d1, d2, d3] => { results := [.lit (.bool true)], args := [d1, d2, d3] }
  | _ => none }
def rigGraceRow : OpenClaim := { program := "ytbceiadaihphaaagreat", sum := "760cfef4e4de63c2415d2989fdfc504834199cbbfecaad90c09662a736984e52", func := "leapfrog/leapfroglaw20.RigGrace", spec := "rigGrace", inPlace := ["sync/atomic.StoreUint64", "sync/atomic.LoadUint64"], unfollowed := true, recurses := true, apart := false }
def RigGraceSaid : Prop := rigGraceRow.holds Tryz.pinned (OpenSpec.ofChange rigGraceSpec)

/-- ITS FALSE NEIGHBOUR: 'it returns false'. Refute it at one input. -/
def rigGraceWrong : ChangeSpec := { name := "rigGrace", fn := fun _ => fun
  | [d1, d2, d3] => { results := [.lit (.bool false)], args := [d1, d2, d3] }
  | _ => none }
def RigGraceWrongFalsely : Prop := rigGraceRow.holds Tryz.pinned (OpenSpec.ofChange rigGraceWrong)

/-- 'leapfroglaw20.RigOrder': WHATEVER THE INPUT: true; the input reads as it did. -/
def rigOrderSpec : ChangeSpec := { name := "rigOrder", fn := fun _ => fun
  | [d1, d2, d3] => { results := [.lit (.bool true)], args := [d1, d2, d3] }
  | _ => none }
def rigOrderRow : OpenClaim := { program := "ytbceiadaihphaaagreat", sum := "760cfef4e4de63c2415d2989fdfc504834199cbbfecaad90c09662a736984e52", func := "leapfrog/leapfroglaw20.RigOrder", spec := "rigOrder", inPlace := ["sync/atomic.StoreUint64", "sync/atomic.LoadUint64"], unfollowed := true, recurses := true, apart := false }
def RigOrderSaid : Prop := rigOrderRow.holds Tryz.pinned (OpenSpec.ofChange rigOrderSpec)

/-- ITS FALSE NEIGHBOUR: 'it returns false'. Refute it at one input. -/
def rigOrderWrong : ChangeSpec := { name := "rigOrder", fn := fun _ => fun
  | [d1, d2, d3] => { results := [.lit (.bool false)], args := [d1, d2, d3] }
  | _ => none }
def RigOrderWrongFalsely : Prop := rigOrderRow.holds Tryz.pinned (OpenSpec.ofChange rigOrderWrong)

/-- 'leapfroglaw22.StallStays': WHATEVER THE INPUT: true; the input reads as it did. -/
def stallStaysSpec : ChangeSpec := { name := "stallStays", fn := fun _ => fun
  | [d1, d2, d3, d4] => { results := [.lit (.bool true)], args := [d1, d2, d3, d4] }
  | _ => none }
def stallStaysRow : OpenClaim := { program := "ytbceiadaihphaaagreat", sum := "760cfef4e4de63c2415d2989fdfc504834199cbbfecaad90c09662a736984e52", func := "leapfrog/leapfroglaw22.StallStays", spec := "stallStays", inPlace := ["sync/atomic.StoreUint64", "sync/atomic.LoadUint64"], unfollowed := true, recurses := true, apart := false }
def StallStaysSaid : Prop := stallStaysRow.holds Tryz.pinned (OpenSpec.ofChange stallStaysSpec)

/-- ITS FALSE NEIGHBOUR: 'it returns false'. Refute it at one input. -/
def stallStaysWrong : ChangeSpec := { name := "stallStays", fn := fun _ => fun
  | [d1, d2, d3, d4] => { results := [.lit (.bool false)], args := [d1, d2, d3, d4] }
  | _ => none }
def StallStaysWrongFalsely : Prop := stallStaysRow.holds Tryz.pinned (OpenSpec.ofChange stallStaysWrong)

/-- 'leapfroglaw22.StallRigs': WHATEVER THE INPUT: true; the input reads as it did. -/
def stallRigsSpec : ChangeSpec := { name := "stallRigs", fn := fun _ => fun
  | [d1, d2, d3] => { results := [.lit (.bool true)], args := [d1, d2, d3] }
  | _ => none }
def stallRigsRow : OpenClaim := { program := "ytbceiadaihphaaagreat", sum := "760cfef4e4de63c2415d2989fdfc504834199cbbfecaad90c09662a736984e52", func := "leapfrog/leapfroglaw22.StallRigs", spec := "stallRigs", inPlace := ["sync/atomic.StoreUint64", "sync/atomic.LoadUint64"], unfollowed := true, recurses := true, apart := false }
def StallRigsSaid : Prop := stallRigsRow.holds Tryz.pinned (OpenSpec.ofChange stallRigsSpec)

/-- ITS FALSE NEIGHBOUR: 'it returns false'. Refute it at one input. -/
def stallRigsWrong : ChangeSpec := { name := "stallRigs", fn := fun _ => fun
  | [d1, d2, d3] => { results := [.lit (.bool false)], args := [d1, d2, d3] }
  | _ => none }
def StallRigsWrongFalsely : Prop := stallRigsRow.holds Tryz.pinned (OpenSpec.ofChange stallRigsWrong)

/- THE SECOND FORM. 'bulk': how many values and letters a reading holds, each counted each time it is reached (what is shared counts as often as it is met; a slice's spare places count too). A statement '..UptoSaid' is the law's where the arguments, and the package variables that the reading takes, are together of bulk at most 1048576: NARROWER than '..Said'. Prove '..Said' where nothing that the law and all that it calls make is longer than what came in: it says more and counts as full. Else prove '..UptoSaid'. A law counts once. -/
mutual
def uptoBulk {H : Type} : DataW H → Nat
  | .lit (.string bytes) => bytes.length + 1
  | .lit _ => 1
  | .nil => 1
  | .ptr d => uptoBulk d + 1
  | .slice elems spare => uptoBulkAll elems + uptoBulkAll spare + 1
  | .agg parts => uptoBulkAll parts + 1
  | .iface _ d => uptoBulk d + 1
  | .map entries => uptoBulkEntries entries + 1
  | .held _ => 1
def uptoBulkAll {H : Type} : List (DataW H) → Nat
  | [] => 0
  | d :: r => uptoBulk d + uptoBulkAll r
def uptoBulkEntries {H : Type} : List (Lit × DataW H) → Nat
  | [] => 0
  | x :: r => uptoBulkEntry x + uptoBulkEntries r
def uptoBulkEntry {H : Type} : Lit × DataW H → Nat
  | (.string bytes, d) => bytes.length + uptoBulk d + 1
  | (_, d) => uptoBulk d + 1
 end
def uptoSmall : (H : Type) → List (DataW H) → Bool := fun _ ds => decide (uptoBulkAll ds ≤ 1048576)
def OpenSpec.upto (s : _root_.Go.ChangeSpec) : _root_.Go.OpenSpec := { _root_.Go.OpenSpec.ofChange s with cond := some uptoSmall }

/-- 'leapfroglaw20.RigGrace', WHERE WHAT IT READS IS OF BULK AT MOST 1048576: true; the input reads as it did. -/
def rigGraceUptoRow : OpenClaim := { program := "ytbceiadaihphaaagreat", sum := "760cfef4e4de63c2415d2989fdfc504834199cbbfecaad90c09662a736984e52", func := "leapfrog/leapfroglaw20.RigGrace", spec := "rigGrace", inPlace := ["sync/atomic.StoreUint64", "sync/atomic.LoadUint64"], unfollowed := true, recurses := true, apart := false, narrowed := true }
def RigGraceUptoSaid : Prop := rigGraceUptoRow.holds Tryz.pinned (OpenSpec.upto rigGraceSpec)

/-- 'leapfroglaw20.RigOrder', WHERE WHAT IT READS IS OF BULK AT MOST 1048576: true; the input reads as it did. -/
def rigOrderUptoRow : OpenClaim := { program := "ytbceiadaihphaaagreat", sum := "760cfef4e4de63c2415d2989fdfc504834199cbbfecaad90c09662a736984e52", func := "leapfrog/leapfroglaw20.RigOrder", spec := "rigOrder", inPlace := ["sync/atomic.StoreUint64", "sync/atomic.LoadUint64"], unfollowed := true, recurses := true, apart := false, narrowed := true }
def RigOrderUptoSaid : Prop := rigOrderUptoRow.holds Tryz.pinned (OpenSpec.upto rigOrderSpec)

/-- 'leapfroglaw22.StallStays', WHERE WHAT IT READS IS OF BULK AT MOST 1048576: true; the input reads as it did. -/
def stallStaysUptoRow : OpenClaim := { program := "ytbceiadaihphaaagreat", sum := "760cfef4e4de63c2415d2989fdfc504834199cbbfecaad90c09662a736984e52", func := "leapfrog/leapfroglaw22.StallStays", spec := "stallStays", inPlace := ["sync/atomic.StoreUint64", "sync/atomic.LoadUint64"], unfollowed := true, recurses := true, apart := false, narrowed := true }
def StallStaysUptoSaid : Prop := stallStaysUptoRow.holds Tryz.pinned (OpenSpec.upto stallStaysSpec)

/-- 'leapfroglaw22.StallRigs', WHERE WHAT IT READS IS OF BULK AT MOST 1048576: true; the input reads as it did. -/
def stallRigsUptoRow : OpenClaim := { program := "ytbceiadaihphaaagreat", sum := "760cfef4e4de63c2415d2989fdfc504834199cbbfecaad90c09662a736984e52", func := "leapfrog/leapfroglaw22.StallRigs", spec := "stallRigs", inPlace := ["sync/atomic.StoreUint64", "sync/atomic.LoadUint64"], unfollowed := true, recurses := true, apart := false, narrowed := true }
def StallRigsUptoSaid : Prop := stallRigsUptoRow.holds Tryz.pinned (OpenSpec.upto stallRigsSpec)

end Rows
end Go.Proofs.YtbceiadaihphaaaGreat
