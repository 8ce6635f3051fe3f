/-
  The law leapfroglaw15.TowerLists holds: the function returns true in every world, for any numbers of towers, any stores and any level.
-/
import Derived.Test.YtapcgfakefmemaaRows
import Derived.WalkKit
import Derived.ProofKit
import Derived.OpenShut
import Derived.Test.YtapcgfakefmemaaAmU5
import Derived.Test.YtapcgfakefmemaaTWR
namespace Go.Proofs.Ytapcgfakefmemaa.towerLists
open Go.ChangeShapes Go.WideShapes Go.ChangeAt Go.RowKit Go.Am

theorem laidOut : laidOutB Try.prog = true := by kernel_rfl
theorem own : ownKnob Try.prog.godebug = none := by kernel_rfl

theorem flat1 : flatT Try.prog 8 22 = some [.int .u8, .int .u8, .int .u8, .int .u8, .int .u8, .int .u8] := by kernel_rfl
theorem split1 {ns : List Int} (h : ns.length = 6) : ∃ c0 c1 c2 c3 c4 c5, ns = [c0, c1, c2, c3, c4, c5] := by
  match ns, h with
  | [c0, c1, c2, c3, c4, c5], _ => exact ⟨c0, c1, c2, c3, c4, c5, rfl⟩
theorem flat2 : flatT Try.prog 8 99 = some [.int .i64, .int .u64] := by kernel_rfl
theorem cells2 : Try.prog.cellsOf 99 = 2 := by kernel_rfl
theorem bytes2 : 0 < Try.prog.bytesOf 99 := of_decide_eq_true (by kernel_rfl)
theorem puts_ok {h : PT ABlk} {q : Nat} {s : Value} {A : List (List Int)} (H : IsRows [.int .i64, .int .u64] h q s A) : IsPuts h s (A.map fun x => (x.getD 0 0, x.getD 1 0)) := by
  obtain ⟨h1, h2⟩ := H
  rcases h2 with ⟨rfl, rfl⟩ | ⟨cap, rfl, -, -, e4⟩
  · exact ⟨none, 0, rfl, fun i hi => by simp at hi⟩
  · refine ⟨some ⟨q, 0, none⟩, cap, by rw [List.length_map], fun i hi => ?_⟩
    rw [List.length_map] at hi
    obtain ⟨hl, hw⟩ := h1 A[i] (List.getElem_mem hi)
    have g0 := rowsL_get h1 (List.getElem?_eq_getElem hi) 0 (by decide)
    have g1 := rowsL_get h1 (List.getElem?_eq_getElem hi) 1 (by decide)
    generalize A[i] = x at *
    match x, hl with
    | [a, b], _ =>
      obtain ⟨-, wb, -⟩ := hw
      have hb := u64_of_wf wb
      exact ⟨q, 0, none, _, true, a, b, rfl, e4, by rw [Nat.zero_add]; exact g0, by rw [Nat.zero_add]; exact g1, hb⟩

/-! ### The row's step -/
set_option maxRecDepth 100000 in
theorem lifted (os : Os) (started : os.Started) (H : Type) (enc : TypeId × Value → H) :
    ReturnsInHanded {} Try.checked os 3 .any (Rows.towerListsSpec.pre6 enc Try.prog Try.f3 Rows.towerListsRow.domain false) (Rows.towerListsSpec.post enc Try.prog Try.f3 false true false false) := by
  refine returnsInHanded_of_change_sized (C := Try.checked) own started (by kernel_rfl) Try.func3
    (ChangeSpec.witness6 (enc := enc) (C := Try.checked) false ⟨#[], #[.int .i64 0, .agg ⟨[.int .u8 0, .int .u8 0, .int .u8 0, .int .u8 0, .int .u8 0, .int .u8 0]⟩, .slice none 0 0, .int .i64 0], []⟩ 8 (by kernel_rfl) (by kernel_rfl) (by kernel_rfl) (by kernel_rfl)) ?_
  intro W base args ds gs before hval0 hW hcnd hsz _
  have hval : ∀ (j : Nat) t v, Try.f3.params[j]? = some t → args[j]? = some v → Value.okWide Try.prog W .any base t v := hval0
  have hW' := hW
  obtain ⟨p, q, hA0, hV, rfl, hfz, hnd⟩ := hW
  have hA : DataW.TrodAll enc Try.prog W 0 (fun _ => true) true Try.f3.params.toList args.toList ds p := hA0
  have hsz2 : (DataW.weightsEach Try.prog (Try.f3.params.toList ++ []) (ds ++ gs)).all (· ≤ reachBytes) = true := hsz
  rw [Try.params3] at hA hval hsz2
  obtain ⟨v0, vs0, d0, ds0, p0, q0, hargs0, rfl, rfl, h0, r0⟩ := trodAll_cons hA
  obtain ⟨v1, vs1, d1, ds1, p1, q1, hargs1, rfl, rfl, h1, r1⟩ := trodAll_cons r0
  obtain ⟨v2, vs2, d2, ds2, p2, q2, hargs2, rfl, rfl, h2, r2⟩ := trodAll_cons r1
  obtain ⟨v3, vs3, d3, ds3, p3, q3, hargs3, rfl, rfl, h3, r3⟩ := trodAll_cons r2
  obtain ⟨rfl, rfl, rfl⟩ := trodAll_nil r3
  subst hargs3
  subst hargs2
  subst hargs1
  obtain rfl : args = #[v0, v1, v2, v3] := by cases args; simp_all
  obtain ⟨rfl, rfl⟩ := trodVars_none hV
  have hz2 : ∀ n ∈ d2.weights Try.prog 23, n ≤ reachBytes := fun n hn => by
    have := List.all_eq_true.1 hsz2 n (DataW.weights_mem_each (j := 2) rfl rfl n hn)
    simpa using this
  have hok0 := hval 0 3 v0 rfl rfl
  have hok1 := hval 1 22 v1 rfl rfl
  have hok2 := hval 2 23 v2 rfl rfl
  have hok3 := hval 3 3 v3 rfl rfl
  clear hA0 hval0 hsz hsz2 hval
  have h0' := h0
  have h1' := h1
  have h2' := h2
  have h3' := h3
  obtain ⟨n0, rfl, w0⟩ := open_num Try.underlying3 hok0 h0
  obtain ⟨ns1, rfl, l1, w1⟩ := open_agg Try.underlying22 rfl flat1 hok1 h1
  obtain ⟨a1_0, a1_1, a1_2, a1_3, a1_4, a1_5, rfl⟩ := split1 l1
  obtain ⟨x2, s2, A2, hvs2, hvr2, hl2, hA2⟩ := open_rows Try.underlying23 flat2 cells2.symm (by decide) bytes2 (v0 := []) (fun k v h => by simp at h) hok2 h2 hz2
  obtain ⟨n3, rfl, w3⟩ := open_num Try.underlying3 hok3 h3
  simp only [List.append_nil] at hW'
  have hrel : VRels (viewG ([] ++ x2)) [.int .i64 n0, .agg ⟨mkL [.int .u8, .int .u8, .int .u8, .int .u8, .int .u8, .int .u8] [a1_0, a1_1, a1_2, a1_3, a1_4, a1_5]⟩, s2, .int .i64 n3] [.int .i64 n0, .agg ⟨mkL [.int .u8, .int .u8, .int .u8, .int .u8, .int .u8, .int .u8] [a1_0, a1_1, a1_2, a1_3, a1_4, a1_5]⟩, v2, .int .i64 n3] := .cons _ _ _ _ (.int _ _) (.cons _ _ _ _ (.agg _ _ (mkL_rel _ _)) (.cons _ _ _ _ hvr2 (.cons _ _ _ _ (.int _ _) .nil)))
  refine (law_views2 OTok orders hvs2 hrel (lists n0 a1_0 a1_1 a1_2 a1_3 a1_4 a1_5 s2 _ n3 _ _ (viewH_wf _) (puts_ok hA2) (u8_of_wf w1.1).1 (u8_of_wf w1.2.1).1 (u8_of_wf w1.2.2.1).1 (u8_of_wf w1.2.2.2.1).1 (u8_of_wf w1.2.2.2.2.1).1 (u8_of_wf w1.2.2.2.2.2.1).1)).mono fun e W' ⟨he, hg, hbel⟩ => ?_
  subst he
  have hlt : ∀ x ∈ p0 ++ (p1 ++ (p2 ++ (p3))), x.block < W.heap.size := fun x hx => hW'.lt x (by simpa using hx)
  exact ⟨_, rfl, Am.post_of_sameA (pa := p0 ++ (p1 ++ (p2 ++ (p3)))) (pv := []) hW' (fun _ _ _ => (trodAll_cons_mk (shut_bool Try.underlying4 _) trodAll_mk0))
    (fun sp hsp => by
      have g3 := WideElems.Trod_stays (sp' := sp) laidOut (by kernel_rfl) (of_decide_eq_true (by kernel_rfl)) h3' (fun x hx => hbel.same (hlt x (by simp [hx]))) (fun x hx => hsp x (by simp [hx]))
      have g2 := WideElems.Trod_stays (sp' := sp) laidOut (by kernel_rfl) (of_decide_eq_true (by kernel_rfl)) h2' (fun x hx => hbel.same (hlt x (by simp [hx]))) (fun x hx => hsp x (by simp [hx]))
      have g1 := WideElems.Trod_stays (sp' := sp) laidOut (by kernel_rfl) (of_decide_eq_true (by kernel_rfl)) h1' (fun x hx => hbel.same (hlt x (by simp [hx]))) (fun x hx => hsp x (by simp [hx]))
      have g0 := WideElems.Trod_stays (sp' := sp) laidOut (by kernel_rfl) (of_decide_eq_true (by kernel_rfl)) h0' (fun x hx => hbel.same (hlt x (by simp [hx]))) (fun x hx => hsp x (by simp [hx]))
      have := trodAll_cons_mk g0 (trodAll_cons_mk g1 (trodAll_cons_mk g2 (trodAll_cons_mk g3 trodAll_mk0)))
      rw [List.append_nil] at this
      exact this) (fun _ _ => rfl) (by simp)
    hg (ok_one (by kernel_rfl) rfl (okWide_bool_mk Try.underlying4 _))⟩

theorem over : Rows.towerListsRow.holds Try.pinned (OpenSpec.ofChange Rows.towerListsSpec) :=
  OpenClaim.holds_of_wide 3 Try.f3 rfl rfl rfl rfl rfl rfl rfl ⟨rfl, rfl, rfl, rfl, rfl⟩ rfl rfl rfl rfl rfl (by kernel_rfl) Try.func3 (by kernel_rfl)
    (of_decide_eq_true (by kernel_rfl)) (by unfold Func.isWrapper; first | (rw [if_pos (by decide +kernel)]; kernel_rfl) | (rw [if_neg (by decide +kernel)]; exact ⟨rfl, rfl⟩))
    (fun os started H enc _ => lifted os started H enc)

/-- The statement. -/
theorem proved : Rows.TowerListsSaid :=
  over
#print axioms proved
end Go.Proofs.Ytapcgfakefmemaa.towerLists
