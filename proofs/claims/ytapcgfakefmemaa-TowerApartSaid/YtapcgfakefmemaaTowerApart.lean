/-
  The law leapfroglaw15.TowerApart holds: the function returns true in every world, for any cells, any pair and any state.
-/
import Derived.Test.YtapcgfakefmemaaRows
import Derived.WalkKit
import Derived.ProofKit
import Derived.OpenShut
import Derived.Test.YtapcgfakefmemaaAmU5
import Derived.Test.YtapcgfakefmemaaTXJ
namespace Go.Proofs.Ytapcgfakefmemaa.towerApart
open Go.ChangeShapes Go.WideShapes Go.ChangeAt Go.RowKit Go.Am
theorem laidOut : laidOutB Try.prog = true := by kernel_rfl
theorem own : ownKnob Try.prog.godebug = none := by kernel_rfl
theorem flat0 : flatT Try.prog 8 65 = some [.int .u64, .int .u64, .int .u8, .int .u8, .int .u8] := by kernel_rfl
theorem cells0 : Try.prog.cellsOf 65 = 5 := by kernel_rfl
theorem bytes0 : 0 < Try.prog.bytesOf 65 := of_decide_eq_true (by kernel_rfl)
theorem flat1 : flatT Try.prog 8 63 = some [.int .u64, .int .u64] := by kernel_rfl
theorem split1 {ns : List Int} (h : ns.length = 2) : ∃ c0 c1, ns = [c0, c1] := by
  match ns, h with
  | [c0, c1], _ => exact ⟨c0, c1, rfl⟩
theorem flat2 : flatT Try.prog 8 65 = some [.int .u64, .int .u64, .int .u8, .int .u8, .int .u8] := by kernel_rfl
theorem split2 {ns : List Int} (h : ns.length = 5) : ∃ c0 c1 c2 c3 c4, ns = [c0, c1, c2, c3, c4] := by
  match ns, h with
  | [c0, c1, c2, c3, c4], _ => exact ⟨c0, c1, c2, c3, c4, rfl⟩
theorem cells_row {h : PT ABlk} {q : Nat} {s : Value} {A : List (List Int)} (H : IsRows [.int .u64, .int .u64, .int .u8, .int .u8, .int .u8] h q s A) : (s = .slice none 0 0 ∧ A.map toC = []) ∨ ∃ g cap ro, s = .slice (some ⟨g, 0, none⟩) (A.map toC).length cap ∧ h.get g = some (.cells (PT.ofList .leaf 0 (celL (A.map toC))) ro) := by
  obtain ⟨h1, h2⟩ := H
  rcases h2 with ⟨rfl, rfl⟩ | ⟨cap, rfl, -, -, e4⟩
  · exact .inl ⟨rfl, rfl⟩
  · rw [celL_rows h1] at e4
    exact .inr ⟨q, cap, true, by rw [List.length_map], e4⟩
set_option maxRecDepth 100000 in
theorem lifted (os : Os) (started : os.Started) (H : Type) (enc : TypeId × Value → H) :
    ReturnsInHanded {} Try.checked os 5 .any (Rows.towerApartSpec.pre6 enc Try.prog Try.f5 Rows.towerApartRow.domain false) (Rows.towerApartSpec.post enc Try.prog Try.f5 false true false false) := by
  refine returnsInHanded_of_change_sized (C := Try.checked) own started (by kernel_rfl) Try.func5
    (ChangeSpec.witness6 (enc := enc) (C := Try.checked) false ⟨#[], #[.slice none 0 0, .agg ⟨[.int .u64 0, .int .u64 0]⟩, .agg ⟨[.int .u64 0, .int .u64 0, .int .u8 0, .int .u8 0, .int .u8 0]⟩], []⟩ 8 (by kernel_rfl) (by kernel_rfl) (by kernel_rfl) (by kernel_rfl)) ?_
  intro W base args ds gs before hval0 hW hcnd hsz _
  have hval : ∀ (j : Nat) t v, Try.f5.params[j]? = some t → args[j]? = some v → Value.okWide Try.prog W .any base t v := hval0
  have hW' := hW
  obtain ⟨p, q, hA0, hV, rfl, hfz, hnd⟩ := hW
  have hA : DataW.TrodAll enc Try.prog W 0 (fun _ => true) true Try.f5.params.toList args.toList ds p := hA0
  have hsz2 : (DataW.weightsEach Try.prog (Try.f5.params.toList ++ []) (ds ++ gs)).all (· ≤ reachBytes) = true := hsz
  rw [Try.params5] at hA hval hsz2
  obtain ⟨v0, vs0, d0, ds0, p0, q0, hargs0, rfl, rfl, h0, r0⟩ := trodAll_cons hA
  obtain ⟨v1, vs1, d1, ds1, p1, q1, hargs1, rfl, rfl, h1, r1⟩ := trodAll_cons r0
  obtain ⟨v2, vs2, d2, ds2, p2, q2, hargs2, rfl, rfl, h2, r2⟩ := trodAll_cons r1
  obtain ⟨rfl, rfl, rfl⟩ := trodAll_nil r2
  subst hargs2
  subst hargs1
  obtain rfl : args = #[v0, v1, v2] := by cases args; simp_all
  obtain ⟨rfl, rfl⟩ := trodVars_none hV
  have hz0 : ∀ n ∈ d0.weights Try.prog 61, n ≤ reachBytes := fun n hn => by
    have := List.all_eq_true.1 hsz2 n (DataW.weights_mem_each (j := 0) rfl rfl n hn)
    simpa using this
  have hok0 := hval 0 61 v0 rfl rfl
  have hok1 := hval 1 63 v1 rfl rfl
  have hok2 := hval 2 65 v2 rfl rfl
  clear hA0 hval0 hsz hsz2 hval
  have h0' := h0
  have h1' := h1
  have h2' := h2
  obtain ⟨x0, s0, A0, hvs0, hvr0, hl0, hA0⟩ := open_rows Try.underlying61 flat0 cells0.symm (by decide) bytes0 (v0 := []) (fun k v h => by simp at h) hok0 h0 hz0
  obtain ⟨ns1, rfl, l1, w1⟩ := open_agg Try.underlying63 rfl flat1 hok1 h1
  obtain ⟨a1_0, a1_1, rfl⟩ := split1 l1
  obtain ⟨ns2, rfl, l2, w2⟩ := open_agg Try.underlying65 rfl flat2 hok2 h2
  obtain ⟨a2_0, a2_1, a2_2, a2_3, a2_4, rfl⟩ := split2 l2
  simp only [List.append_nil] at hW'
  have hrel : VRels (viewG ([] ++ x0)) [s0, .agg ⟨mkL [.int .u64, .int .u64] [a1_0, a1_1]⟩, .agg ⟨mkL [.int .u64, .int .u64, .int .u8, .int .u8, .int .u8] [a2_0, a2_1, a2_2, a2_3, a2_4]⟩] [v0, .agg ⟨mkL [.int .u64, .int .u64] [a1_0, a1_1]⟩, .agg ⟨mkL [.int .u64, .int .u64, .int .u8, .int .u8, .int .u8] [a2_0, a2_1, a2_2, a2_3, a2_4]⟩] := .cons _ _ _ _ hvr0 (.cons _ _ _ _ (.agg _ _ (mkL_rel _ _)) (.cons _ _ _ _ (.agg _ _ (mkL_rel _ _)) .nil))
  refine (law_views2 OTok orders hvs0 hrel (apart s0 _ a1_0 a1_1 a2_0 a2_1 a2_2 a2_3 a2_4 _ _ (viewH_wf _) (cells_row hA0) (cells_ok hA0).2 ⟨u64_of_wf w2.1, u64_of_wf w2.2.1, u8_of_wf w2.2.2.1, u8_of_wf w2.2.2.2.1, u8_of_wf w2.2.2.2.2.1⟩ (u64_of_wf w1.1) (u64_of_wf w1.2.1))).mono fun e W' ⟨he, hg, hbel⟩ => ?_
  subst he
  have hlt : ∀ x ∈ p0 ++ (p1 ++ (p2)), x.block < W.heap.size := fun x hx => hW'.lt x (by simpa using hx)
  exact ⟨_, rfl, Am.post_of_sameA (pa := p0 ++ (p1 ++ (p2))) (pv := []) hW' (fun _ _ _ => (trodAll_cons_mk (shut_bool Try.underlying4 _) trodAll_mk0))
    (fun sp hsp => by
      have g2 := WideElems.Trod_stays (sp' := sp) laidOut (by kernel_rfl) (of_decide_eq_true (by kernel_rfl)) h2' (fun x hx => hbel.same (hlt x (by simp [hx]))) (fun x hx => hsp x (by simp [hx]))
      have g1 := WideElems.Trod_stays (sp' := sp) laidOut (by kernel_rfl) (of_decide_eq_true (by kernel_rfl)) h1' (fun x hx => hbel.same (hlt x (by simp [hx]))) (fun x hx => hsp x (by simp [hx]))
      have g0 := WideElems.Trod_stays (sp' := sp) laidOut (by kernel_rfl) (of_decide_eq_true (by kernel_rfl)) h0' (fun x hx => hbel.same (hlt x (by simp [hx]))) (fun x hx => hsp x (by simp [hx]))
      have := trodAll_cons_mk g0 (trodAll_cons_mk g1 (trodAll_cons_mk g2 trodAll_mk0))
      rw [List.append_nil] at this
      exact this) (fun _ _ => rfl) (by simp)
    hg (ok_one (by kernel_rfl) rfl (okWide_bool_mk Try.underlying4 _))⟩
theorem over : Rows.towerApartRow.holds Try.pinned (OpenSpec.ofChange Rows.towerApartSpec) :=
  OpenClaim.holds_of_wide 5 Try.f5 rfl rfl rfl rfl rfl rfl rfl ⟨rfl, rfl, rfl, rfl, rfl⟩ rfl rfl rfl rfl rfl (by kernel_rfl) Try.func5 (by kernel_rfl)
    (of_decide_eq_true (by kernel_rfl)) (by unfold Func.isWrapper; first | (rw [if_pos (by decide +kernel)]; kernel_rfl) | (rw [if_neg (by decide +kernel)]; exact ⟨rfl, rfl⟩))
    (fun os started H enc _ => lifted os started H enc)
theorem proved : Rows.TowerApartSaid :=
  over
#print axioms proved
end Go.Proofs.Ytapcgfakefmemaa.towerApart
