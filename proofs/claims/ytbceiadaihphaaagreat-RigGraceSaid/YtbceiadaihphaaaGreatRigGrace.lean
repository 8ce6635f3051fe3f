/-
  The law leapfroglaw20.RigGrace holds: the function returns true in every world, for any engine, programs and picks.
-/
import Derived.Test.YtbceiadaihphaaaGreatRows
import Derived.WalkKit
import Derived.ProofKit
import Derived.OpenShut
import Derived.Test.YtbceiadaihphaaaGreatAmU5
import Derived.Test.YtbceiadaihphaaaGreatRG8
import Derived.Test.YtbceiadaihphaaaGreatRPQ0
namespace Go.Proofs.YtbceiadaihphaaaGreat.rigGrace
open Go.ChangeShapes Go.WideShapes Go.ChangeAt Go.RowKit Go.Am
theorem laidOut : laidOutB Tryz.prog = true := by kernel_rfl
theorem own : ownKnob Tryz.prog.godebug = none := by kernel_rfl
theorem flat0 : flatT Tryz.prog 8 23 = some [.int .u8, .int .i64] := by kernel_rfl
theorem split0 {ns : List Int} (h : ns.length = 2) : ∃ c0 c1, ns = [c0, c1] := by
 match ns, h with
 | [c0, c1], _ => exact ⟨c0, c1, rfl⟩
theorem flat1 : flatT Tryz.prog 8 51 = some [.int .u8, .int .u64] := by kernel_rfl
theorem cells1 : Tryz.prog.cellsOf 51 = 2 := by kernel_rfl
theorem cell1_1 : Tryz.prog.cellsOf 49 = 1 := by kernel_rfl
theorem bytes1 : 0 < Tryz.prog.bytesOf 49 := of_decide_eq_true (by kernel_rfl)
theorem bytes2_1 : 0 < Tryz.prog.bytesOf 51 := of_decide_eq_true (by kernel_rfl)
theorem flat2 : flatT Tryz.prog 8 3 = some [.int .i64] := by kernel_rfl
theorem cells2 : Tryz.prog.cellsOf 3 = 1 := by kernel_rfl
theorem bytes2 : 0 < Tryz.prog.bytesOf 3 := of_decide_eq_true (by kernel_rfl)
set_option maxRecDepth 100000 in
theorem lifted (os : Os) (started : os.Started) (H : Type) (enc : TypeId × Value → H) :
  ReturnsInHanded {} Tryz.checked os 3 .any (Rows.rigGraceSpec.pre6 enc Tryz.prog Tryz.f3 Rows.rigGraceRow.domain false) (Rows.rigGraceSpec.post enc Tryz.prog Tryz.f3 false true false false) := by
 refine returnsInHanded_of_change_sized (C := Tryz.checked) own started (by kernel_rfl) Tryz.func3
  (ChangeSpec.witness6 (enc := enc) (C := Tryz.checked) false ⟨#[], #[.agg ⟨[.int .u8 0, .int .i64 0]⟩, .slice none 0 0, .slice none 0 0], []⟩ 8 (by kernel_rfl) (by kernel_rfl) (by kernel_rfl) (by kernel_rfl)) ?_
 intro W base args ds gs before hval0 hW hcnd hsz _
 have hval : ∀ (j : Nat) t v, Tryz.f3.params[j]? = some t → args[j]? = some v → Value.okWide Tryz.prog W .any base t v := hval0
 have hW' := hW
 obtain ⟨p, q, hA0, hV, rfl, hfz, hnd⟩ := hW
 have hA : DataW.TrodAll enc Tryz.prog W 0 (fun _ => true) true Tryz.f3.params.toList args.toList ds p := hA0
 have hsz2 : (DataW.weightsEach Tryz.prog (Tryz.f3.params.toList ++ []) (ds ++ gs)).all (· ≤ reachBytes) = true := hsz
 rw [Tryz.params3] at hA hval hsz2
 obtain ⟨v0, vs0, d0, ds0, p0, q0, hargs0, rfl, rfl, h0, r0⟩ := trodAll_cons hA
 obtain ⟨v1, vs1, d1, ds1, p1, q1, hargs1, rfl, rfl, h1, r1⟩ := trodAll_cons r0
 obtain ⟨v2, vs2, d2, ds2, p2, q2, hargs2, rfl, rfl, h2, r2⟩ := trodAll_cons r1
 obtain ⟨rfl, rfl, rfl⟩ := trodAll_nil r2
 subst hargs2
 subst hargs1
 obtain rfl : args = #[v0, v1, v2] := by cases args; simp_all
 obtain ⟨rfl, rfl⟩ := trodVars_none hV
 have hz1 : ∀ n ∈ d1.weights Tryz.prog 24, n ≤ reachBytes := fun n hn => by
  have := List.all_eq_true.1 hsz2 n (DataW.weights_mem_each (j := 1) rfl rfl n hn)
  simpa using this
 have hz2 : ∀ n ∈ d2.weights Tryz.prog 25, n ≤ reachBytes := fun n hn => by
  have := List.all_eq_true.1 hsz2 n (DataW.weights_mem_each (j := 2) rfl rfl n hn)
  simpa using this
 have hok0 := hval 0 23 v0 rfl rfl
 have hok1 := hval 1 24 v1 rfl rfl
 have hok2 := hval 2 25 v2 rfl rfl
 clear hA0 hval0 hsz hsz2 hval
 have h0' := h0
 have h1' := h1
 have h2' := h2
 obtain ⟨ns0, rfl, l0, w0⟩ := open_agg Tryz.underlying23 rfl flat0 hok0 h0
 obtain ⟨a0_0, a0_1, rfl⟩ := split0 l0
 obtain ⟨x1, s1, A1, hvs1, hvr1, hl1, hA1⟩ := open_rows2 Tryz.underlying24 Tryz.underlying49 cell1_1 flat1 cells1.symm (by decide) bytes1 bytes2_1 (v0 := []) (fun k v h => by simp at h) hok1 h1 hz1
 have hB1 := IsRows2.bound hA1 (viewH_wf _)
 obtain ⟨x2, s2, A2, hvs2, hvr2, hl2, hA2⟩ := open_rows Tryz.underlying25 flat2 cells2.symm (by decide) bytes2 (v0 := ([] ++ x1)) hvs1 hok2 h2 hz2
 replace hvr1 := hvr1.mono (viewG_le _ x2)
 replace hA1 := hA1.keep (viewH_kept _ x2)
 simp only [List.append_nil] at hW'
 have hrel : VRels (viewG (([] ++ x1) ++ x2)) [.agg ⟨mkL [.int .u8, .int .i64] [a0_0, a0_1]⟩, s1, s2] [.agg ⟨mkL [.int .u8, .int .i64] [a0_0, a0_1]⟩, v1, v2] := .cons _ _ _ _ (.agg _ _ (mkL_rel _ _)) (.cons _ _ _ _ hvr1 (.cons _ _ _ _ hvr2 .nil))
 obtain ⟨x0', rfl⟩ : ∃ x : Nat, a0_0 = x := ⟨a0_0.toNat, by have := (u8_of_wf w0.1).1; omega⟩
 refine (law_views2 OPok orders hvs2 hrel (rigGrace x0' a0_1 s1 s2 A1 A2 _ _ _ _ (viewH_wf _) hA1 hA2 (fun h => by have := hB1 h; simpa using this))).mono fun e W' ⟨he, hg, hbel⟩ => ?_
 subst he
 have hlt : ∀ x ∈ p0 ++ (p1 ++ (p2)), x.block < W.heap.size := fun x hx => hW'.lt x (by simpa using hx)
 exact ⟨_, rfl, Am.post_of_sameA (pa := p0 ++ (p1 ++ (p2))) (pv := []) hW' (fun _ _ _ => (trodAll_cons_mk (shut_bool Tryz.underlying4 _) trodAll_mk0))
  (fun sp hsp => by
   have g2 := WideElems.Trod_stays (sp' := sp) laidOut (by kernel_rfl) (of_decide_eq_true (by kernel_rfl)) h2' (fun x hx => hbel.same (hlt x (by simp [hx]))) (fun x hx => hsp x (by simp [hx]))
   have g1 := WideElems.Trod_stays (sp' := sp) laidOut (by kernel_rfl) (of_decide_eq_true (by kernel_rfl)) h1' (fun x hx => hbel.same (hlt x (by simp [hx]))) (fun x hx => hsp x (by simp [hx]))
   have g0 := WideElems.Trod_stays (sp' := sp) laidOut (by kernel_rfl) (of_decide_eq_true (by kernel_rfl)) h0' (fun x hx => hbel.same (hlt x (by simp [hx]))) (fun x hx => hsp x (by simp [hx]))
   have := trodAll_cons_mk g0 (trodAll_cons_mk g1 (trodAll_cons_mk g2 trodAll_mk0))
   rw [List.append_nil] at this
   exact this) (fun _ _ => rfl) (by simp)
  hg (ok_one (by kernel_rfl) rfl (okWide_bool_mk Tryz.underlying4 _))⟩
theorem over : Rows.rigGraceRow.holds Tryz.pinned (OpenSpec.ofChange Rows.rigGraceSpec) :=
 OpenClaim.holds_of_wide 3 Tryz.f3 rfl rfl rfl rfl rfl rfl rfl ⟨rfl, rfl, rfl, rfl, rfl⟩ rfl rfl rfl rfl rfl (by kernel_rfl) Tryz.func3 (by kernel_rfl)
  (of_decide_eq_true (by kernel_rfl)) (by unfold Func.isWrapper; first | (rw [if_pos (by decide +kernel)]; kernel_rfl) | (rw [if_neg (by decide +kernel)]; exact ⟨rfl, rfl⟩))
  (fun os started H enc _ => lifted os started H enc)
theorem proved : Rows.RigGraceSaid :=
 over
#print axioms proved
end Go.Proofs.YtbceiadaihphaaaGreat.rigGrace
