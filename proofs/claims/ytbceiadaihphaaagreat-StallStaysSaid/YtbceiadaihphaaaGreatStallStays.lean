/-
  The law leapfroglaw22.StallStays holds: the function returns true in every world, for any engine, set, value and picks.
-/
import Derived.Test.YtbceiadaihphaaaGreatRows
import Derived.WalkKit
import Derived.ProofKit
import Derived.OpenShut
import Derived.Test.YtbceiadaihphaaaGreatAmU5
import Derived.Test.YtbceiadaihphaaaGreatRY6
import Derived.Test.YtbceiadaihphaaaGreatRPQ0
namespace Go.Proofs.YtbceiadaihphaaaGreat.stallStays
open Go.ChangeShapes Go.WideShapes Go.ChangeAt Go.RowKit Go.Am
theorem laidOut : laidOutB Tryz.prog = true := by kernel_rfl
theorem own : ownKnob Tryz.prog.godebug = none := by kernel_rfl
theorem flat0 : flatT Tryz.prog 8 53 = some [.int .u8, .int .i64, .int .i64] := by kernel_rfl
theorem split0 {ns : List Int} (h : ns.length = 3) : ∃ c0 c1 c2, ns = [c0, c1, c2] := by
  match ns, h with
  | [c0, c1, c2], _ => exact ⟨c0, c1, c2, rfl⟩
theorem flat3 : flatT Tryz.prog 8 3 = some [.int .i64] := by kernel_rfl
theorem cells3 : Tryz.prog.cellsOf 3 = 1 := by kernel_rfl
theorem bytes3 : 0 < Tryz.prog.bytesOf 3 := of_decide_eq_true (by kernel_rfl)
set_option maxRecDepth 100000 in
theorem lifted (os : Os) (started : os.Started) (H : Type) (enc : TypeId × Value → H) :
    ReturnsInHanded {} Tryz.checked os 5 .any (Rows.stallStaysSpec.pre6 enc Tryz.prog Tryz.f5 Rows.stallStaysRow.domain false) (Rows.stallStaysSpec.post enc Tryz.prog Tryz.f5 false true false false) := by
  refine returnsInHanded_of_change_sized (C := Tryz.checked) own started (by kernel_rfl) Tryz.func5
    (ChangeSpec.witness6 (enc := enc) (C := Tryz.checked) false ⟨#[], #[.agg ⟨[.int .u8 0, .int .i64 0, .int .i64 0]⟩, .int .u64 0, .int .u64 0, .slice none 0 0], []⟩ 8 (by kernel_rfl) (by kernel_rfl) (by kernel_rfl) (by kernel_rfl)) ?_
  intro W base args ds gs before hval0 hW hcnd hsz _
  have hval : ∀ (j : Nat) t v, Tryz.f5.params[j]? = some t → args[j]? = some v → Value.okWide Tryz.prog W .any base t v := hval0
  have hW' := hW
  obtain ⟨p, q, hA0, hV, rfl, hfz, hnd⟩ := hW
  have hA : DataW.TrodAll enc Tryz.prog W 0 (fun _ => true) true Tryz.f5.params.toList args.toList ds p := hA0
  have hsz2 : (DataW.weightsEach Tryz.prog (Tryz.f5.params.toList ++ []) (ds ++ gs)).all (· ≤ reachBytes) = true := hsz
  rw [Tryz.params5] at hA hval hsz2
  obtain ⟨v0, vs0, d0, ds0, p0, q0, hargs0, rfl, rfl, h0, r0⟩ := trodAll_cons hA
  obtain ⟨v1, vs1, d1, ds1, p1, q1, hargs1, rfl, rfl, h1, r1⟩ := trodAll_cons r0
  obtain ⟨v2, vs2, d2, ds2, p2, q2, hargs2, rfl, rfl, h2, r2⟩ := trodAll_cons r1
  obtain ⟨v3, vs3, d3, ds3, p3, q3, hargs3, rfl, rfl, h3, r3⟩ := trodAll_cons r2
  obtain ⟨rfl, rfl, rfl⟩ := trodAll_nil r3
  subst hargs3
  subst hargs2
  subst hargs1
  obtain rfl : args = #[v0, v1, v2, v3] := by cases args; simp_all
  obtain ⟨rfl, rfl⟩ := trodVars_none hV
  have hz3 : ∀ n ∈ d3.weights Tryz.prog 25, n ≤ reachBytes := fun n hn => by
    have := List.all_eq_true.1 hsz2 n (DataW.weights_mem_each (j := 3) rfl rfl n hn)
    simpa using this
  have hok0 := hval 0 53 v0 rfl rfl
  have hok1 := hval 1 31 v1 rfl rfl
  have hok2 := hval 2 31 v2 rfl rfl
  have hok3 := hval 3 25 v3 rfl rfl
  clear hA0 hval0 hsz hsz2 hval
  have h0' := h0
  have h1' := h1
  have h2' := h2
  have h3' := h3
  obtain ⟨ns0, rfl, l0, w0⟩ := open_agg Tryz.underlying53 rfl flat0 hok0 h0
  obtain ⟨a0_0, a0_1, a0_2, rfl⟩ := split0 l0
  obtain ⟨n1, rfl, w1⟩ := open_num Tryz.underlying31 hok1 h1
  obtain ⟨n2, rfl, w2⟩ := open_num Tryz.underlying31 hok2 h2
  obtain ⟨x3, s3, A3, hvs3, hvr3, hl3, hA3⟩ := open_rows Tryz.underlying25 flat3 cells3.symm (by decide) bytes3 (v0 := []) (fun k v h => by simp at h) hok3 h3 hz3
  simp only [List.append_nil] at hW'
  have hrel : VRels (viewG ([] ++ x3)) [.agg ⟨mkL [.int .u8, .int .i64, .int .i64] [a0_0, a0_1, a0_2]⟩, .int .u64 n1, .int .u64 n2, s3] [.agg ⟨mkL [.int .u8, .int .i64, .int .i64] [a0_0, a0_1, a0_2]⟩, .int .u64 n1, .int .u64 n2, v3] := .cons _ _ _ _ (.agg _ _ (mkL_rel _ _)) (.cons _ _ _ _ (.int _ _) (.cons _ _ _ _ (.int _ _) (.cons _ _ _ _ hvr3 .nil)))
  obtain ⟨x0, rfl⟩ : ∃ x : Nat, a0_0 = x := ⟨a0_0.toNat, by have := (u8_of_wf w0.1).1; omega⟩
  obtain ⟨x1, rfl⟩ : ∃ x : Nat, n1 = x := ⟨n1.toNat, by have := (u64_of_wf w1).1; omega⟩
  obtain ⟨x2, rfl⟩ : ∃ x : Nat, n2 = x := ⟨n2.toNat, by have := (u64_of_wf w2).1; omega⟩
  refine (law_views2 OPok orders hvs3 hrel (stays x0 x1 x2 a0_1 a0_2 s3 A3 _ _ _ (viewH_wf _) (by have := (u8_of_wf w0.1).2; omega) (by have := (u64_of_wf w1).2; omega) hA3)).mono fun e W' ⟨he, hg, hbel⟩ => ?_
  subst he
  have hlt : ∀ x ∈ p0 ++ (p1 ++ (p2 ++ (p3))), x.block < W.heap.size := fun x hx => hW'.lt x (by simpa using hx)
  exact ⟨_, rfl, Am.post_of_sameA (pa := p0 ++ (p1 ++ (p2 ++ (p3)))) (pv := []) hW' (fun _ _ _ => (trodAll_cons_mk (shut_bool Tryz.underlying4 _) trodAll_mk0))
    (fun sp hsp => by
      have g3 := WideElems.Trod_stays (sp' := sp) laidOut (by kernel_rfl) (of_decide_eq_true (by kernel_rfl)) h3' (fun x hx => hbel.same (hlt x (by simp [hx]))) (fun x hx => hsp x (by simp [hx]))
      have g2 := WideElems.Trod_stays (sp' := sp) laidOut (by kernel_rfl) (of_decide_eq_true (by kernel_rfl)) h2' (fun x hx => hbel.same (hlt x (by simp [hx]))) (fun x hx => hsp x (by simp [hx]))
      have g1 := WideElems.Trod_stays (sp' := sp) laidOut (by kernel_rfl) (of_decide_eq_true (by kernel_rfl)) h1' (fun x hx => hbel.same (hlt x (by simp [hx]))) (fun x hx => hsp x (by simp [hx]))
      have g0 := WideElems.Trod_stays (sp' := sp) laidOut (by kernel_rfl) (of_decide_eq_true (by kernel_rfl)) h0' (fun x hx => hbel.same (hlt x (by simp [hx]))) (fun x hx => hsp x (by simp [hx]))
      have := trodAll_cons_mk g0 (trodAll_cons_mk g1 (trodAll_cons_mk g2 (trodAll_cons_mk g3 trodAll_mk0)))
      rw [List.append_nil] at this
      exact this) (fun _ _ => rfl) (by simp)
    hg (ok_one (by kernel_rfl) rfl (okWide_bool_mk Tryz.underlying4 _))⟩
theorem over : Rows.stallStaysRow.holds Tryz.pinned (OpenSpec.ofChange Rows.stallStaysSpec) :=
  OpenClaim.holds_of_wide 5 Tryz.f5 rfl rfl rfl rfl rfl rfl rfl ⟨rfl, rfl, rfl, rfl, rfl⟩ rfl rfl rfl rfl rfl (by kernel_rfl) Tryz.func5 (by kernel_rfl)
    (of_decide_eq_true (by kernel_rfl)) (by unfold Func.isWrapper; first | (rw [if_pos (by decide +kernel)]; kernel_rfl) | (rw [if_neg (by decide +kernel)]; exact ⟨rfl, rfl⟩))
    (fun os started H enc _ => lifted os started H enc)
theorem proved : Rows.StallStaysSaid :=
  over
#print axioms proved
end Go.Proofs.YtbceiadaihphaaaGreat.stallStays
