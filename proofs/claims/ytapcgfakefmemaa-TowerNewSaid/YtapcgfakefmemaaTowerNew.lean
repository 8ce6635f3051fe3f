/-
  The law leapfroglaw15.TowerNew holds: the function returns true in every world, for any numbers of towers and of domain values.
-/
import Derived.Test.YtapcgfakefmemaaRows
import Derived.WalkKit
import Derived.ProofKit
import Derived.OpenShut
import Derived.Test.YtapcgfakefmemaaAmU5
import Derived.Test.YtapcgfakefmemaaTVN
namespace Go.Proofs.Ytapcgfakefmemaa.towerNew
open Go.ChangeShapes Go.WideShapes Go.ChangeAt Go.RowKit Go.Am

theorem laidOut : laidOutB Try.prog = true := by kernel_rfl
theorem own : ownKnob Try.prog.godebug = none := by kernel_rfl

theorem flat1 : flatT Try.prog 8 22 = some [.int .u8, .int .u8, .int .u8, .int .u8, .int .u8, .int .u8] := by kernel_rfl
theorem split1 {ns : List Int} (h : ns.length = 6) : ∃ c0 c1 c2 c3 c4 c5, ns = [c0, c1, c2, c3, c4, c5] := by
  match ns, h with
  | [c0, c1, c2, c3, c4, c5], _ => exact ⟨c0, c1, c2, c3, c4, c5, rfl⟩

/-! ### The row's step -/
set_option maxRecDepth 100000 in
theorem lifted (os : Os) (started : os.Started) (H : Type) (enc : TypeId × Value → H) :
    ReturnsInHanded {} Try.checked os 4 .any (Rows.towerNewSpec.pre6 enc Try.prog Try.f4 Rows.towerNewRow.domain false) (Rows.towerNewSpec.post enc Try.prog Try.f4 false true false false) := by
  refine returnsInHanded_of_change_sized (C := Try.checked) own started (by kernel_rfl) Try.func4
    (ChangeSpec.witness6 (enc := enc) (C := Try.checked) false ⟨#[], #[.int .i64 0, .agg ⟨[.int .u8 0, .int .u8 0, .int .u8 0, .int .u8 0, .int .u8 0, .int .u8 0]⟩], []⟩ 8 (by kernel_rfl) (by kernel_rfl) (by kernel_rfl) (by kernel_rfl)) ?_
  intro W base args ds gs before hval0 hW hcnd hsz _
  have hval : ∀ (j : Nat) t v, Try.f4.params[j]? = some t → args[j]? = some v → Value.okWide Try.prog W .any base t v := hval0
  have hW' := hW
  obtain ⟨p, q, hA0, hV, rfl, hfz, hnd⟩ := hW
  have hA : DataW.TrodAll enc Try.prog W 0 (fun _ => true) true Try.f4.params.toList args.toList ds p := hA0
  have hsz2 : (DataW.weightsEach Try.prog (Try.f4.params.toList ++ []) (ds ++ gs)).all (· ≤ reachBytes) = true := hsz
  rw [Try.params4] at hA hval hsz2
  obtain ⟨v0, vs0, d0, ds0, p0, q0, hargs0, rfl, rfl, h0, r0⟩ := trodAll_cons hA
  obtain ⟨v1, vs1, d1, ds1, p1, q1, hargs1, rfl, rfl, h1, r1⟩ := trodAll_cons r0
  obtain ⟨rfl, rfl, rfl⟩ := trodAll_nil r1
  subst hargs1
  obtain rfl : args = #[v0, v1] := by cases args; simp_all
  obtain ⟨rfl, rfl⟩ := trodVars_none hV
  have hok0 := hval 0 3 v0 rfl rfl
  have hok1 := hval 1 22 v1 rfl rfl
  clear hA0 hval0 hsz hsz2 hval
  have h0' := h0
  have h1' := h1
  obtain ⟨n0, rfl, w0⟩ := open_num Try.underlying3 hok0 h0
  obtain ⟨ns1, rfl, l1, w1⟩ := open_agg Try.underlying22 rfl flat1 hok1 h1
  obtain ⟨a1_0, a1_1, a1_2, a1_3, a1_4, a1_5, rfl⟩ := split1 l1
  simp only [List.append_nil] at hW'
  have hrel : VRels (viewG []) [.int .i64 n0, .agg ⟨mkL [.int .u8, .int .u8, .int .u8, .int .u8, .int .u8, .int .u8] [a1_0, a1_1, a1_2, a1_3, a1_4, a1_5]⟩] [.int .i64 n0, .agg ⟨mkL [.int .u8, .int .u8, .int .u8, .int .u8, .int .u8, .int .u8] [a1_0, a1_1, a1_2, a1_3, a1_4, a1_5]⟩] := .cons _ _ _ _ (.int _ _) (.cons _ _ _ _ (.agg _ _ (mkL_rel _ _)) .nil)
  refine (law_views2 OTok orders (vs := []) (fun k v h => by simp at h) hrel (towerNew n0 a1_0 a1_1 a1_2 a1_3 a1_4 a1_5 _ _ (viewH_wf _) (u8_of_wf w1.1).1 (u8_of_wf w1.2.1).1 (u8_of_wf w1.2.2.1).1 (u8_of_wf w1.2.2.2.1).1 (u8_of_wf w1.2.2.2.2.1).1 (u8_of_wf w1.2.2.2.2.2.1).1)).mono fun e W' ⟨he, hg, hbel⟩ => ?_
  subst he
  have hlt : ∀ x ∈ p0 ++ (p1), x.block < W.heap.size := fun x hx => hW'.lt x (by simpa using hx)
  exact ⟨_, rfl, Am.post_of_sameA (pa := p0 ++ (p1)) (pv := []) hW' (fun _ _ _ => (trodAll_cons_mk (shut_bool Try.underlying4 _) trodAll_mk0))
    (fun sp hsp => by
      have g1 := WideElems.Trod_stays (sp' := sp) laidOut (by kernel_rfl) (of_decide_eq_true (by kernel_rfl)) h1' (fun x hx => hbel.same (hlt x (by simp [hx]))) (fun x hx => hsp x (by simp [hx]))
      have g0 := WideElems.Trod_stays (sp' := sp) laidOut (by kernel_rfl) (of_decide_eq_true (by kernel_rfl)) h0' (fun x hx => hbel.same (hlt x (by simp [hx]))) (fun x hx => hsp x (by simp [hx]))
      have := trodAll_cons_mk g0 (trodAll_cons_mk g1 trodAll_mk0)
      rw [List.append_nil] at this
      exact this) (fun _ _ => rfl) (by simp)
    hg (ok_one (by kernel_rfl) rfl (okWide_bool_mk Try.underlying4 _))⟩

theorem over : Rows.towerNewRow.holds Try.pinned (OpenSpec.ofChange Rows.towerNewSpec) :=
  OpenClaim.holds_of_wide 4 Try.f4 rfl rfl rfl rfl rfl rfl rfl ⟨rfl, rfl, rfl, rfl, rfl⟩ rfl rfl rfl rfl rfl (by kernel_rfl) Try.func4 (by kernel_rfl)
    (of_decide_eq_true (by kernel_rfl)) (by unfold Func.isWrapper; first | (rw [if_pos (by decide +kernel)]; kernel_rfl) | (rw [if_neg (by decide +kernel)]; exact ⟨rfl, rfl⟩))
    (fun os started H enc _ => lifted os started H enc)

/-- The statement. -/
theorem proved : Rows.TowerNewSaid :=
  over
#print axioms proved
end Go.Proofs.Ytapcgfakefmemaa.towerNew
