/-
  The law leapfroglaw27.UnlinkNames holds: the function returns true in every world, without conditions (it takes no argument).
-/
import Derived.Test.YtbifkkhmfojlpaaGreatRows
import Derived.WalkKit
import Derived.ProofKit
import Derived.OpenShut
import Derived.Test.YtbifkkhmfojlpaaGreatAmZ3
import Derived.Test.YtbifkkhmfojlpaaGreatAmZ5
import Derived.Test.YtbifkkhmfojlpaaGreatOut1
namespace Go.Proofs.YtbifkkhmfojlpaaGreat.unlinkNames
open Go.ChangeShapes Go.WideShapes Go.ChangeAt Go.RowKit
set_option linter.unusedVariables false      -- a walk need not use every 'w<i>' (that an integer argument fits its kind)

theorem own : ownKnob Tryz.prog.godebug = none := by kernel_rfl

theorem orders : Tryz.prog.follows .mixedOrders = true := by kernel_rfl

theorem table0 : Am.TabOk Tryz.prog [(102, Am.outS)] := .cons outSound .nil

/-! A closed part of the law: reckoned by the kernel. -/
set_option maxRecDepth 1000000 in
theorem part0 : Am.lawB Tryz.prog (Am.tabO [(102, Am.outS)]) 20000 12 = true := by kernel_rfl
theorem table : Am.TabOk Tryz.prog [(12, Am.trueZ), (102, Am.outS)] := .cons (Am.closedZ (Am.tab_sound table0) orders (Am.z_of_b part0)) table0

/-! The evaluator's own run of the law: reckoned by the kernel. -/
set_option maxRecDepth 1000000 in
theorem reckoned : Am.lawB Tryz.prog (Am.tabO [(12, Am.trueZ), (102, Am.outS)]) 20000 3 = true := by kernel_rfl

/-! The walk: what the evaluator says, the machine does. -/
theorem walk (w : World) :
    Calls Tryz.prog 3 #[] w fun e w' => e = .returned (.bool true) ∧ Am.GrownA w w' :=
  Am.law_z table orders (Am.z_of_b reckoned) w

/-! ### The row's step -/
set_option maxRecDepth 100000 in
theorem lifted (os : Os) (started : os.Started) (H : Type) (enc : TypeId × Value → H) :
    ReturnsInHanded {} Tryz.checked os 3 .any (Rows.unlinkNamesSpec.pre6 enc Tryz.prog Tryz.f3 Rows.unlinkNamesRow.domain false) (Rows.unlinkNamesSpec.post enc Tryz.prog Tryz.f3 false true false false) := by
  refine returnsInHanded_of_change (C := Tryz.checked) own started (by kernel_rfl) Tryz.func3
    (ChangeSpec.witness6 (enc := enc) (C := Tryz.checked) false ⟨#[], #[], []⟩ 8 (by kernel_rfl) (by kernel_rfl) (by kernel_rfl) (by kernel_rfl)) ?_
  intro W base args ds gs before hval0 hW hcnd _
  have hval : ∀ (j : Nat) t v, Tryz.f3.params[j]? = some t → args[j]? = some v → Value.okWide Tryz.prog W .any base t v := hval0
  have hW' := hW
  obtain ⟨p, q, hA0, hV, rfl, hfz, hnd⟩ := hW
  have hA : DataW.TrodAll enc Tryz.prog W 0 (fun _ => true) true Tryz.f3.params.toList args.toList ds p := hA0
  rw [Tryz.params3] at hA hval
  obtain ⟨rfl, rfl, rfl⟩ := trodAll_none hA
  obtain ⟨rfl, rfl⟩ := trodVars_none hV
  clear hA0 hval0
  simp only [List.append_nil] at hW'
  refine (walk  W).mono fun e W' ⟨he, hg⟩ => ?_
  subst he
  exact ⟨_, rfl, Am.post_of_sameA (pa := []) (pv := []) hW' (fun _ _ _ => (trodAll_cons_mk (shut_bool Tryz.underlying4 _) trodAll_mk0)) (fun sp _ => rfl) (fun _ _ => rfl) rfl
    hg (ok_one (by kernel_rfl) rfl (okWide_bool_mk Tryz.underlying4 _))⟩

theorem over : Rows.unlinkNamesRow.holds Tryz.pinned (OpenSpec.ofChange Rows.unlinkNamesSpec) :=
  OpenClaim.holds_of_wide 3 Tryz.f3 rfl rfl rfl rfl rfl rfl rfl ⟨rfl, rfl, rfl, rfl, rfl⟩ rfl rfl rfl rfl rfl (by kernel_rfl) Tryz.func3 (by kernel_rfl)
    (of_decide_eq_true (by kernel_rfl)) (by unfold Func.isWrapper; first | (rw [if_pos (by decide +kernel)]; kernel_rfl) | (rw [if_neg (by decide +kernel)]; exact ⟨rfl, rfl⟩))
    (fun os started H enc _ => lifted os started H enc)

/-- The statement. -/
theorem proved : Rows.UnlinkNamesSaid :=
  over
#print axioms proved
end Go.Proofs.YtbifkkhmfojlpaaGreat.unlinkNames
