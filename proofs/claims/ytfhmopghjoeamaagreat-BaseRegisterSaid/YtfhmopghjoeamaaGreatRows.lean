/-
  No cell of these rows narrows 'for every input' (looked for: loops, veiled, ifaces, maps, wideKeys, modest, calm, conditions, laid).
  DERIVED. THE GIVEN ROWS OF THIS SEAT. 3 by the template 'for every input the law returns true; each argument reads behind the call as it read before'; 0 by the template 'total and deterministic' (their statements: YtfhmopghjoeamaaGreatTotals.lean).
  GIVEN WITH THE SEED: the statements are not yours to turn. If you find one false, say at which input.
  Laid BY PROGRAM, IN A SANDBOX (cutbox-rows.mjs): the forced cells as the released guide's own fill.sh prints them over the translation 15c1c662828e8d93… (all of the seat's roots in one cut). By AI agents, Wed Nov 11 2026. No macro, syntax, notation, axiom, sorry.
-/
import Derived.Test.YtfhmopghjoeamaaGreatChecked
import GoSem.Claim
import GoSem.ClaimJoined
import GoSem.ClaimMapViews
import Derived.JoinedTies
import Derived.KernelRfl
namespace Go.Proofs.YtfhmopghjoeamaaGreat
/- THE CELL 'sum', in the pinned program and in every row, IS THE sha256 OF THE DUMP (.gsa) THAT YtfhmopghjoeamaaGreatProg.lean LOADS. Nothing in Lean hashes anything: it is a label: what it is worth is what the hold of that sum in a sandbox is worth. -/
noncomputable def Tryz.pinned : Pinned := { name := "ytfhmopghjoeamaagreat", sum := "15c1c662828e8d93393236f7b295ec817b84eef41836f4c89a3d18e4e36bf9e2", checked := Tryz.checked }
namespace Rows
def none {H : Type} : Left H := { results := [], args := [] }

/-- 'leapfroglaw23.BaseClock': WHATEVER THE INPUT: true; the input reads as it did. -/
def baseClockSpec : ChangeSpec := { name := "baseClock", fn := fun _ => fun
  | [d] => { results := [.lit (.bool true)], args := [d] }
  | _ => none }
def baseClockRow : OpenClaim := { program := "ytfhmopghjoeamaagreat", sum := "15c1c662828e8d93393236f7b295ec817b84eef41836f4c89a3d18e4e36bf9e2", func := "leapfrog/leapfroglaw23.BaseClock", spec := "baseClock", inPlace := ["sync/atomic.StoreUint64", "sync/atomic.LoadUint64", "sync/atomic.CompareAndSwapUint64", "sync/atomic.SwapUint64"], unfollowed := true, recurses := true, apart := false }
def BaseClockSaid : Prop := baseClockRow.holds Tryz.pinned (OpenSpec.ofChange baseClockSpec)

/-- ITS FALSE NEIGHBOUR: 'it returns false'. Refute it at one input. -/
def baseClockWrong : ChangeSpec := { name := "baseClock", fn := fun _ => fun
  | [d] => { results := [.lit (.bool false)], args := [d] }
  | _ => none }
def BaseClockWrongFalsely : Prop := baseClockRow.holds Tryz.pinned (OpenSpec.ofChange baseClockWrong)

/-- 'leapfroglaw23.BaseNew': WHATEVER THE INPUT: true; the input reads as it did. -/
def baseNewSpec : ChangeSpec := { name := "baseNew", fn := fun _ => fun
  | [d] => { results := [.lit (.bool true)], args := [d] }
  | _ => none }
def baseNewRow : OpenClaim := { program := "ytfhmopghjoeamaagreat", sum := "15c1c662828e8d93393236f7b295ec817b84eef41836f4c89a3d18e4e36bf9e2", func := "leapfrog/leapfroglaw23.BaseNew", spec := "baseNew", inPlace := ["sync/atomic.StoreUint64", "sync/atomic.LoadUint64", "sync/atomic.CompareAndSwapUint64", "sync/atomic.SwapUint64"], unfollowed := true, recurses := true, apart := false }
def BaseNewSaid : Prop := baseNewRow.holds Tryz.pinned (OpenSpec.ofChange baseNewSpec)

/-- ITS FALSE NEIGHBOUR: 'it returns false'. Refute it at one input. -/
def baseNewWrong : ChangeSpec := { name := "baseNew", fn := fun _ => fun
  | [d] => { results := [.lit (.bool false)], args := [d] }
  | _ => none }
def BaseNewWrongFalsely : Prop := baseNewRow.holds Tryz.pinned (OpenSpec.ofChange baseNewWrong)

/-- 'leapfroglaw23.BaseRegister': WHATEVER THE INPUT: true; the input reads as it did. -/
def baseRegisterSpec : ChangeSpec := { name := "baseRegister", fn := fun _ => fun
  | [d1, d2] => { results := [.lit (.bool true)], args := [d1, d2] }
  | _ => none }
def baseRegisterRow : OpenClaim := { program := "ytfhmopghjoeamaagreat", sum := "15c1c662828e8d93393236f7b295ec817b84eef41836f4c89a3d18e4e36bf9e2", func := "leapfrog/leapfroglaw23.BaseRegister", spec := "baseRegister", inPlace := ["sync/atomic.StoreUint64", "sync/atomic.LoadUint64", "sync/atomic.CompareAndSwapUint64", "sync/atomic.SwapUint64"], unfollowed := true, recurses := true, apart := false }
def BaseRegisterSaid : Prop := baseRegisterRow.holds Tryz.pinned (OpenSpec.ofChange baseRegisterSpec)

/-- ITS FALSE NEIGHBOUR: 'it returns false'. Refute it at one input. -/
def baseRegisterWrong : ChangeSpec := { name := "baseRegister", fn := fun _ => fun
  | [d1, d2] => { results := [.lit (.bool false)], args := [d1, d2] }
  | _ => none }
def BaseRegisterWrongFalsely : Prop := baseRegisterRow.holds Tryz.pinned (OpenSpec.ofChange baseRegisterWrong)

/- THE SECOND FORM. 'bulk': how many values and letters a reading holds, each counted each time it is reached (what is shared counts as often as it is met; a slice's spare places count too). A statement '..UptoSaid' is the law's where the arguments, and the package variables that the reading takes, are together of bulk at most 1048576: NARROWER than '..Said'. Prove '..Said' where nothing that the law and all that it calls make is longer than what came in: it says more and counts as full. Else prove '..UptoSaid'. A law counts once. -/
mutual
def uptoBulk {H : Type} : DataW H → Nat
  | .lit (.string bytes) => bytes.length + 1
  | .lit _ => 1
  | .nil => 1
  | .ptr d => uptoBulk d + 1
  | .slice elems spare => uptoBulkAll elems + uptoBulkAll spare + 1
  | .agg parts => uptoBulkAll parts + 1
  | .iface _ d => uptoBulk d + 1
  | .map entries => uptoBulkEntries entries + 1
  | .held _ => 1
def uptoBulkAll {H : Type} : List (DataW H) → Nat
  | [] => 0
  | d :: r => uptoBulk d + uptoBulkAll r
def uptoBulkEntries {H : Type} : List (Lit × DataW H) → Nat
  | [] => 0
  | x :: r => uptoBulkEntry x + uptoBulkEntries r
def uptoBulkEntry {H : Type} : Lit × DataW H → Nat
  | (.string bytes, d) => bytes.length + uptoBulk d + 1
  | (_, d) => uptoBulk d + 1
 end
def uptoSmall : (H : Type) → List (DataW H) → Bool := fun _ ds => decide (uptoBulkAll ds ≤ 1048576)
def OpenSpec.upto (s : _root_.Go.ChangeSpec) : _root_.Go.OpenSpec := { _root_.Go.OpenSpec.ofChange s with cond := some uptoSmall }

/-- 'leapfroglaw23.BaseClock', WHERE WHAT IT READS IS OF BULK AT MOST 1048576: true; the input reads as it did. -/
def baseClockUptoRow : OpenClaim := { program := "ytfhmopghjoeamaagreat", sum := "15c1c662828e8d93393236f7b295ec817b84eef41836f4c89a3d18e4e36bf9e2", func := "leapfrog/leapfroglaw23.BaseClock", spec := "baseClock", inPlace := ["sync/atomic.StoreUint64", "sync/atomic.LoadUint64", "sync/atomic.CompareAndSwapUint64", "sync/atomic.SwapUint64"], unfollowed := true, recurses := true, apart := false, narrowed := true }
def BaseClockUptoSaid : Prop := baseClockUptoRow.holds Tryz.pinned (OpenSpec.upto baseClockSpec)

/-- 'leapfroglaw23.BaseNew', WHERE WHAT IT READS IS OF BULK AT MOST 1048576: true; the input reads as it did. -/
def baseNewUptoRow : OpenClaim := { program := "ytfhmopghjoeamaagreat", sum := "15c1c662828e8d93393236f7b295ec817b84eef41836f4c89a3d18e4e36bf9e2", func := "leapfrog/leapfroglaw23.BaseNew", spec := "baseNew", inPlace := ["sync/atomic.StoreUint64", "sync/atomic.LoadUint64", "sync/atomic.CompareAndSwapUint64", "sync/atomic.SwapUint64"], unfollowed := true, recurses := true, apart := false, narrowed := true }
def BaseNewUptoSaid : Prop := baseNewUptoRow.holds Tryz.pinned (OpenSpec.upto baseNewSpec)

/-- 'leapfroglaw23.BaseRegister', WHERE WHAT IT READS IS OF BULK AT MOST 1048576: true; the input reads as it did. -/
def baseRegisterUptoRow : OpenClaim := { program := "ytfhmopghjoeamaagreat", sum := "15c1c662828e8d93393236f7b295ec817b84eef41836f4c89a3d18e4e36bf9e2", func := "leapfrog/leapfroglaw23.BaseRegister", spec := "baseRegister", inPlace := ["sync/atomic.StoreUint64", "sync/atomic.LoadUint64", "sync/atomic.CompareAndSwapUint64", "sync/atomic.SwapUint64"], unfollowed := true, recurses := true, apart := false, narrowed := true }
def BaseRegisterUptoSaid : Prop := baseRegisterUptoRow.holds Tryz.pinned (OpenSpec.upto baseRegisterSpec)

end Rows
end Go.Proofs.YtfhmopghjoeamaaGreat
