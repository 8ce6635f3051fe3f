/-
  The law leapfroglaw22.StallOrder holds: the function returns true in every world, for all numbers, sets and values.
-/
import Derived.Test.YtknelmeaegldmaaRows
import Derived.WalkKit
import Derived.ProofKit
import Derived.OpenShut
import Derived.Test.YtknelmeaegldmaaS2N
import Derived.Test.YtknelmeaegldmaaAmY6
namespace Go.Proofs.Ytknelmeaegldmaa.stallOrder
open Go.ChangeShapes Go.WideShapes Go.ChangeAt Go.RowKit Go.Am

theorem laidOut : laidOutB Try.prog = true := by kernel_rfl
section
variable {H : Type} {enc : TypeId × Value → H} {w : World} {base : Nat} {held : Bool}
set_option maxRecDepth 100000 in
theorem open_i64 {v : Value} {d : DataW H} {p : List MemPlace} {base' : Nat} (hok : Value.okWide Try.prog w .any base' 3 v) (h : DataW.Trod enc Try.prog w base (fun _ => true) held 3 v d p) : ∃ n : Int, v = .int .i64 n := by
  unfold Value.okWide at hok
  rw [Try.underlying3] at hok
  simp only at hok
  obtain ⟨fuel, h⟩ := h
  have hv : ∃ kk n, v = .int kk n := by
    unfold Cell.okWide at hok
    rw [Try.underlying3] at hok
    cases v <;> first | exact ⟨_, _, rfl⟩ | (simp [Cell.ok, Try.underlying3] at hok; done)
  obtain ⟨kk, n, rfl⟩ := hv
  obtain ⟨m, e, hw⟩ := trod_int Try.underlying3 h
  simp only [Value.cells, List.cons.injEq, and_true] at e
  cases e
  exact ⟨_, rfl⟩
set_option maxRecDepth 100000 in
theorem open_u64 {v : Value} {d : DataW H} {p : List MemPlace} {base' : Nat} (hok : Value.okWide Try.prog w .any base' 24 v) (h : DataW.Trod enc Try.prog w base (fun _ => true) held 24 v d p) : ∃ n : Nat, v = .int .u64 n ∧ n < 2 ^ 64 := by
  unfold Value.okWide at hok
  rw [Try.underlying24] at hok
  simp only at hok
  obtain ⟨fuel, h⟩ := h
  have hv : ∃ kk n, v = .int kk n := by
    unfold Cell.okWide at hok
    rw [Try.underlying24] at hok
    cases v <;> first | exact ⟨_, _, rfl⟩ | (simp [Cell.ok, Try.underlying24] at hok; done)
  obtain ⟨kk, n, rfl⟩ := hv
  obtain ⟨m, e, hw⟩ := trod_int Try.underlying24 h
  simp only [Value.cells, List.cons.injEq, and_true] at e
  cases e
  simp only [Lit.wf, Bool.and_eq_true, decide_eq_true_eq] at hw
  have e1 : IntKind.u64.min = 0 := rfl
  have e2 : IntKind.u64.max = 18446744073709551615 := rfl
  exact ⟨n.toNat, by rw [Int.toNat_of_nonneg (by omega)], by omega⟩
end
theorem own : ownKnob Try.prog.godebug = none := by kernel_rfl

/-! ### The row's step -/
set_option maxRecDepth 100000 in
theorem lifted (os : Os) (started : os.Started) (H : Type) (enc : TypeId × Value → H) :
    ReturnsInHanded {} Try.checked os 5 .any (Rows.stallOrderSpec.pre6 enc Try.prog Try.f5 Rows.stallOrderRow.domain false) (Rows.stallOrderSpec.post enc Try.prog Try.f5 false true false false) := by
  refine returnsInHanded_of_change_sized (C := Try.checked) own started (by kernel_rfl) Try.func5
    (ChangeSpec.witness6 (enc := enc) (C := Try.checked) false ⟨#[], #[.int .i64 0, .int .i64 0, .int .u64 0, .int .u64 0, .int .u64 0], []⟩ 8 (by kernel_rfl) (by kernel_rfl) (by kernel_rfl) (by kernel_rfl)) ?_
  intro W base args ds gs before hval0 hW hcnd hsz _
  have hval : ∀ (j : Nat) t v, Try.f5.params[j]? = some t → args[j]? = some v → Value.okWide Try.prog W .any base t v := hval0
  have hW' := hW
  obtain ⟨p, q, hA0, hV, rfl, hfz, hnd⟩ := hW
  have hA : DataW.TrodAll enc Try.prog W 0 (fun _ => true) true Try.f5.params.toList args.toList ds p := hA0
  have hsz2 : (DataW.weightsEach Try.prog (Try.f5.params.toList ++ []) (ds ++ gs)).all (· ≤ reachBytes) = true := hsz
  rw [Try.params5] at hA hval hsz2
  obtain ⟨v0, vs0, d0, ds0, p0, q0, hargs0, rfl, rfl, h0, r0⟩ := trodAll_cons hA
  obtain ⟨v1, vs1, d1, ds1, p1, q1, hargs1, rfl, rfl, h1, r1⟩ := trodAll_cons r0
  obtain ⟨v2, vs2, d2, ds2, p2, q2, hargs2, rfl, rfl, h2, r2⟩ := trodAll_cons r1
  obtain ⟨v3, vs3, d3, ds3, p3, q3, hargs3, rfl, rfl, h3, r3⟩ := trodAll_cons r2
  obtain ⟨v4, vs4, d4, ds4, p4, q4, hargs4, rfl, rfl, h4, r4⟩ := trodAll_cons r3
  obtain ⟨rfl, rfl, rfl⟩ := trodAll_nil r4
  subst hargs4
  subst hargs3
  subst hargs2
  subst hargs1
  obtain rfl : args = #[v0, v1, v2, v3, v4] := by cases args; simp_all
  obtain ⟨rfl, rfl⟩ := trodVars_none hV
  have hok0 := hval 0 3 v0 rfl rfl
  have hok1 := hval 1 3 v1 rfl rfl
  have hok2 := hval 2 24 v2 rfl rfl
  have hok3 := hval 3 24 v3 rfl rfl
  have hok4 := hval 4 24 v4 rfl rfl
  clear hA0 hval0 hsz hsz2 hval
  have h0' := h0
  have h1' := h1
  have h2' := h2
  have h3' := h3
  have h4' := h4
  obtain ⟨bu, rfl⟩ := open_i64 hok0 h0
  obtain ⟨sl, rfl⟩ := open_i64 hok1 h1
  obtain ⟨a, rfl, ha⟩ := open_u64 hok2 h2
  obtain ⟨b, rfl, hb⟩ := open_u64 hok3 h3
  obtain ⟨v, rfl, hv⟩ := open_u64 hok4 h4
  simp only [List.append_nil] at hW'
  have hrel : VRels (viewG []) [.int .i64 bu, .int .i64 sl, .int .u64 (a : Int), .int .u64 (b : Int), .int .u64 (v : Int)] [.int .i64 bu, .int .i64 sl, .int .u64 (a : Int), .int .u64 (b : Int), .int .u64 (v : Int)] := (.cons _ _ _ _ (.int _ _) (.cons _ _ _ _ (.int _ _) (.cons _ _ _ _ (.int _ _) (.cons _ _ _ _ (.int _ _) (.cons _ _ _ _ (.int _ _) .nil)))))
  refine (law_views2 OSok orders (vs := []) (fun k v h => by simp at h) hrel (order bu sl a b v ha hb hv _ _ (viewH_wf _))).mono fun e W' ⟨he, hg, hbel⟩ => ?_
  subst he
  have hlt : ∀ x ∈ p0 ++ (p1 ++ (p2 ++ (p3 ++ p4))), x.block < W.heap.size := fun x hx => hW'.lt x (by simpa using hx)
  exact ⟨_, rfl, Am.post_of_sameA (pa := p0 ++ (p1 ++ (p2 ++ (p3 ++ p4)))) (pv := []) hW' (fun _ _ _ => (trodAll_cons_mk (shut_bool Try.underlying4 _) trodAll_mk0))
    (fun sp hsp => by
      have g4 := WideElems.Trod_stays (sp' := sp) laidOut (by kernel_rfl) (of_decide_eq_true (by kernel_rfl)) h4' (fun x hx => hbel.same (hlt x (by simp [hx]))) (fun x hx => hsp x (by simp [hx]))
      have g3 := WideElems.Trod_stays (sp' := sp) laidOut (by kernel_rfl) (of_decide_eq_true (by kernel_rfl)) h3' (fun x hx => hbel.same (hlt x (by simp [hx]))) (fun x hx => hsp x (by simp [hx]))
      have g2 := WideElems.Trod_stays (sp' := sp) laidOut (by kernel_rfl) (of_decide_eq_true (by kernel_rfl)) h2' (fun x hx => hbel.same (hlt x (by simp [hx]))) (fun x hx => hsp x (by simp [hx]))
      have g1 := WideElems.Trod_stays (sp' := sp) laidOut (by kernel_rfl) (of_decide_eq_true (by kernel_rfl)) h1' (fun x hx => hbel.same (hlt x (by simp [hx]))) (fun x hx => hsp x (by simp [hx]))
      have g0 := WideElems.Trod_stays (sp' := sp) laidOut (by kernel_rfl) (of_decide_eq_true (by kernel_rfl)) h0' (fun x hx => hbel.same (hlt x (by simp [hx]))) (fun x hx => hsp x (by simp [hx]))
      have := trodAll_cons_mk g0 (trodAll_cons_mk g1 (trodAll_cons_mk g2 (trodAll_cons_mk g3 (trodAll_cons_mk g4 trodAll_mk0))))
      rw [List.append_nil] at this
      exact this) (fun _ _ => rfl) (by simp)
    hg (ok_one (by kernel_rfl) rfl (okWide_bool_mk Try.underlying4 _))⟩

theorem over : Rows.stallOrderRow.holds Try.pinned (OpenSpec.ofChange Rows.stallOrderSpec) :=
  OpenClaim.holds_of_wide 5 Try.f5 rfl rfl rfl rfl rfl rfl rfl ⟨rfl, rfl, rfl, rfl, rfl⟩ rfl rfl rfl rfl rfl (by kernel_rfl) Try.func5 (by kernel_rfl)
    (of_decide_eq_true (by kernel_rfl)) (by unfold Func.isWrapper; first | (rw [if_pos (by decide +kernel)]; kernel_rfl) | (rw [if_neg (by decide +kernel)]; exact ⟨rfl, rfl⟩))
    (fun os started H enc _ => lifted os started H enc)

/-- The statement. -/
theorem proved : Rows.StallOrderSaid :=
  over
#print axioms proved
end Go.Proofs.Ytknelmeaegldmaa.stallOrder
