/-
  The law leapfroglaw09.LayoutPlaces holds: the function returns true in every world, for every configuration and all questions.
-/
import Derived.Test.YtakfjoelpploeaaRows
import Derived.WalkKit
import Derived.ProofKit
import Derived.OpenShut
import Derived.Test.YtakfjoelpploeaaL9ZA
import Derived.Test.YtakfjoelpploeaaL9B
namespace Go.Proofs.Ytakfjoelpploeaa.layoutPlaces
open Go.ChangeShapes Go.WideShapes Go.ChangeAt Go.RowKit Go.Am

theorem nat_of_wf {x : Int} (h : (Lit.int .u64 x).wf = true) : 0 ≤ x := by
  simp only [Lit.wf, Bool.and_eq_true, decide_eq_true_eq] at h
  have : IntKind.u64.min = 0 := rfl
  omega
theorem i64_of_wf {x : Int} (h : (Lit.int .i64 x).wf = true) : -9223372036854775808 ≤ x ∧ x ≤ 9223372036854775807 := by
  simp only [Lit.wf, Bool.and_eq_true, decide_eq_true_eq] at h
  have : IntKind.i64.min = -9223372036854775808 := rfl
  have : IntKind.i64.max = 9223372036854775807 := rfl
  omega
theorem own : ownKnob Try.prog.godebug = none := by kernel_rfl

/-! ### The row's step -/
set_option maxRecDepth 100000 in
theorem lifted (os : Os) (started : os.Started) (H : Type) (enc : TypeId × Value → H) :
    ReturnsInHanded {} Try.checked os 6 .any (Rows.layoutPlacesSpec.pre6 enc Try.prog Try.f6 Rows.layoutPlacesRow.domain false) (Rows.layoutPlacesSpec.post enc Try.prog Try.f6 false true false false) := by
  refine returnsInHanded_of_change_sized (C := Try.checked) own started (by kernel_rfl) Try.func6
    (ChangeSpec.witness6 (enc := enc) (C := Try.checked) false ⟨#[], #[.agg ⟨[.int .i64 0, .int .i64 0, .int .u8 0, .int .i64 0, .int .u8 0, .int .i64 0, .slice none 0 0, .int .i64 0, .int .i64 0, .int .i64 0, .int .i64 0, .int .i64 0, .int .i64 0, .int .i64 0, .int .i64 0, .int .i64 0]⟩, .slice none 0 0], []⟩ 8 (by kernel_rfl) (by kernel_rfl) (by kernel_rfl) (by kernel_rfl)) ?_
  intro W base args ds gs before hval0 hW hcnd hsz _
  have hval : ∀ (j : Nat) t v, Try.f6.params[j]? = some t → args[j]? = some v → Value.okWide Try.prog W .any base t v := hval0
  have hW' := hW
  obtain ⟨p, q, hA0, hV, rfl, hfz, hnd⟩ := hW
  have hA : DataW.TrodAll enc Try.prog W 0 (fun _ => true) true Try.f6.params.toList args.toList ds p := hA0
  have hsz2 : (DataW.weightsEach Try.prog (Try.f6.params.toList ++ []) (ds ++ gs)).all (· ≤ reachBytes) = true := hsz
  rw [Try.params6] at hA hval hsz2
  obtain ⟨v0, vs0, d0, ds0, p0, q0, hargs, rfl, rfl, h0, r0⟩ := trodAll_cons hA
  obtain ⟨v1, vs1, d1, ds1, p1, q1, hargs1, rfl, rfl, h1, r1⟩ := trodAll_cons r0
  obtain ⟨rfl, rfl, rfl⟩ := trodAll_nil r1
  subst hargs1
  obtain rfl : args = #[v0, v1] := by cases args; simp_all
  obtain ⟨rfl, rfl⟩ := trodVars_none hV
  have hz : ∀ n ∈ d0.weights Try.prog 31, n ≤ reachBytes := fun n hn => by
    have := List.all_eq_true.1 hsz2 n (DataW.weights_mem_each (j := 0) rfl rfl n hn)
    simpa using this
  have hz1 : ∀ n ∈ d1.weights Try.prog 54, n ≤ reachBytes := fun n hn => by
    have := List.all_eq_true.1 hsz2 n (DataW.weights_mem_each (j := 1) rfl rfl n hn)
    simpa using this
  have hok := hval 0 31 v0 rfl rfl
  have hok1 := hval 1 54 v1 rfl rfl
  clear hA0 hval0 hsz hsz2 hval
  have h0' := h0
  have h1' := h1
  obtain ⟨th, sl, en, bu, kd, dn, t0, t1, t2, t3, t4, t5, lo, tr, ba, s', vs, s, xs, rfl, hvs, hvr, hin, hlen, hwf, -, -, -, hcp⟩ := open_cfg hok h0 hz
  obtain ⟨vs2, s2, A, hvs2, hvr2, hwf2, hlA, hA2⟩ := open_asks hvs hok1 h1 hz1
  simp only [List.append_nil] at hW'
  have hb : reachBytes < 1000000000000000 := by decide
  have hvr' := hvr.mono (viewG_le vs vs2)
  have hin' := hin.keep (viewH_kept vs vs2)
  have hrel : VRels (viewG (vs ++ vs2)) [.agg ⟨[.int .i64 th, .int .i64 sl, .int .u8 en, .int .i64 bu, .int .u8 kd, .int .i64 dn, s, .int .i64 t0, .int .i64 t1, .int .i64 t2, .int .i64 t3, .int .i64 t4, .int .i64 t5, .int .i64 lo, .int .i64 tr, .int .i64 ba]⟩, s2]
      [.agg ⟨[.int .i64 th, .int .i64 sl, .int .u8 en, .int .i64 bu, .int .u8 kd, .int .i64 dn, s', .int .i64 t0, .int .i64 t1, .int .i64 t2, .int .i64 t3, .int .i64 t4, .int .i64 t5, .int .i64 lo, .int .i64 tr, .int .i64 ba]⟩, v1] :=
    .cons _ _ _ _ (.agg _ _ (.cons _ _ _ _ (.int _ _) (.cons _ _ _ _ (.int _ _) (.cons _ _ _ _ (.int _ _) (.cons _ _ _ _ (.int _ _) (.cons _ _ _ _ (.int _ _) (.cons _ _ _ _ (.int _ _) (.cons _ _ _ _ hvr'
      (.cons _ _ _ _ (.int _ _) (.cons _ _ _ _ (.int _ _) (.cons _ _ _ _ (.int _ _) (.cons _ _ _ _ (.int _ _) (.cons _ _ _ _ (.int _ _) (.cons _ _ _ _ (.int _ _) (.cons _ _ _ _ (.int _ _) (.cons _ _ _ _ (.int _ _) (.cons _ _ _ _ (.int _ _) .nil)))))))))))))))) ) (.cons _ _ _ _ hvr2 .nil)
  have hA3 : (s2 = .slice none 0 0 ∧ A = []) ∨ ∃ q cap, s2 = .slice (some ⟨q, 0, none⟩) A.length cap ∧ (viewH (vs ++ vs2)).get q = some (.cells (PT.ofList .leaf 0 (askCs A)) true) := by
    rcases hA2 with e | ⟨cap, e1, e2⟩
    · exact .inl e
    · exact .inr ⟨_, cap, e1, e2⟩
  refine (law_views2 OPok orders hvs2 hrel (places th sl en bu kd dn t0 t1 t2 t3 t4 t5 lo tr ba s s2 xs A _ _ (viewH_wf _) hin' (by omega) (by omega) (fun x hx => nat_of_wf (hwf x hx)) hA3 fun x hx n hn => i64_of_wf (hwf2 x hx n hn))).mono fun e W' ⟨he, hg, hbel⟩ => ?_
  subst he
  have hlt : ∀ x ∈ p0 ++ p1, x.block < W.heap.size := fun x hx => hW'.lt x (by simpa using hx)
  exact ⟨_, rfl, Am.post_of_sameA (pa := p0 ++ p1) (pv := []) hW' (fun _ _ _ => (trodAll_cons_mk (shut_bool Try.underlying4 _) trodAll_mk0))
    (fun sp hsp => by
      have g1 := WideElems.Trod_stays (sp' := sp) laidOut (by kernel_rfl) (of_decide_eq_true (by kernel_rfl)) h1' (fun x hx => hbel.same (hlt x (List.mem_append_right _ hx))) (fun x hx => hsp x (by simp [hx]))
      have g0 := WideElems.Trod_stays (sp' := sp) laidOut (by kernel_rfl) (of_decide_eq_true (by kernel_rfl)) h0' (fun x hx => hbel.same (hlt x (List.mem_append_left _ hx))) (fun x hx => hsp x (by simp [hx]))
      have := trodAll_cons_mk g0 (trodAll_cons_mk g1 trodAll_mk0)
      rw [List.append_nil] at this
      exact this) (fun _ _ => rfl) (by simp)
    hg (ok_one (by kernel_rfl) rfl (okWide_bool_mk Try.underlying4 _))⟩

theorem over : Rows.layoutPlacesRow.holds Try.pinned (OpenSpec.ofChange Rows.layoutPlacesSpec) :=
  OpenClaim.holds_of_wide 6 Try.f6 rfl rfl rfl rfl rfl rfl rfl ⟨rfl, rfl, rfl, rfl, rfl⟩ rfl rfl rfl rfl rfl (by kernel_rfl) Try.func6 (by kernel_rfl)
    (of_decide_eq_true (by kernel_rfl)) (by unfold Func.isWrapper; first | (rw [if_pos (by decide +kernel)]; kernel_rfl) | (rw [if_neg (by decide +kernel)]; exact ⟨rfl, rfl⟩))
    (fun os started H enc _ => lifted os started H enc)

/-- The statement. -/
theorem proved : Rows.LayoutPlacesSaid :=
  over
#print axioms proved
end Go.Proofs.Ytakfjoelpploeaa.layoutPlaces
