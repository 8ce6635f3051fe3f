/-
  The law leapfroglaw22.StallNumbers holds: the function returns true in every world, for every engine, set and value.
-/
import Derived.Test.YtknelmeaegldmaaRows
import Derived.WalkKit
import Derived.ProofKit
import Derived.OpenShut
import Derived.Test.YtknelmeaegldmaaS2L
import Derived.Test.YtknelmeaegldmaaAmY6
namespace Go.Proofs.Ytknelmeaegldmaa.stallNumbers
open Go.ChangeShapes Go.WideShapes Go.ChangeAt Go.RowKit Go.Am

theorem laidOut : laidOutB Try.prog = true := by kernel_rfl
theorem cells23 : Try.prog.cellsOf 23 = 3 := by kernel_rfl
theorem cells3 : Try.prog.cellsOf 3 = 1 := by kernel_rfl
theorem cells5 : Try.prog.cellsOf 5 = 1 := by kernel_rfl
theorem list3 {α : Type} {cs : List α} (h : cs.length = 3) : ∃ c0 c1 c2, cs = [c0, c1, c2] := by
  match cs, h with
  | [c0, c1, c2], _ => exact ⟨c0, c1, c2, rfl⟩
section
variable {H : Type} {enc : TypeId × Value → H} {w : World} {base : Nat} {held : Bool}
theorem part_int {fuel : Nat} {t : TypeId} {k : IntKind} {c : Value} {y : DataW H × List MemPlace} (ht : Try.prog.underlying t = some (.int k)) (h : DataW.trod enc Try.prog w base (fun _ => true) held fuel t [c] = some y) : ∃ n, c = .int k n ∧ (Lit.int k n).wf = true := by
  obtain ⟨n, e, hw⟩ := trod_int ht h
  simp only [List.cons.injEq, and_true] at e
  exact ⟨n, e, hw⟩
set_option maxRecDepth 100000 in
theorem open_eng {v : Value} {d : DataW H} {p : List MemPlace} {base' : Nat} (hok : Value.okWide Try.prog w .any base' 23 v) (h : DataW.Trod enc Try.prog w base (fun _ => true) held 23 v d p) : ∃ kd sl k, v = .agg ⟨[.int .u8 kd, .int .i64 sl, .int .i64 k]⟩ := by
  unfold Value.okWide at hok
  rw [Try.underlying23] at hok
  obtain ⟨⟨cs⟩, rfl, hsz, -⟩ := hok
  rw [cells23] at hsz
  obtain ⟨c0, c1, c2, e⟩ := list3 hsz
  subst e
  obtain ⟨fuel, h⟩ := h
  obtain ⟨-, fuel', parts, hp, ha⟩ := trod_struct_at Try.underlying23 h
  obtain ⟨y0, -, h0⟩ := ha 0 _ rfl
  obtain ⟨y1, -, h1⟩ := ha 1 _ rfl
  obtain ⟨y2, -, h2⟩ := ha 2 _ rfl
  simp only [cells3, cells5] at h0 h1 h2
  obtain ⟨n0, rfl, -⟩ := part_int Try.underlying5 h0
  obtain ⟨n1, rfl, -⟩ := part_int Try.underlying3 h1
  obtain ⟨n2, rfl, -⟩ := part_int Try.underlying3 h2
  exact ⟨n0, n1, n2, rfl⟩
set_option maxRecDepth 100000 in
theorem open_u64 {v : Value} {d : DataW H} {p : List MemPlace} {base' : Nat} (hok : Value.okWide Try.prog w .any base' 24 v) (h : DataW.Trod enc Try.prog w base (fun _ => true) held 24 v d p) : ∃ n : Nat, v = .int .u64 n ∧ n < 2 ^ 64 := by
  unfold Value.okWide at hok
  rw [Try.underlying24] at hok
  simp only at hok
  obtain ⟨fuel, h⟩ := h
  have hv : ∃ kk n, v = .int kk n := by
    unfold Cell.okWide at hok
    rw [Try.underlying24] at hok
    cases v <;> first | exact ⟨_, _, rfl⟩ | (simp [Cell.ok, Try.underlying24] at hok; done)
  obtain ⟨kk, n, rfl⟩ := hv
  obtain ⟨m, e, hw⟩ := trod_int Try.underlying24 h
  simp only [Value.cells, List.cons.injEq, and_true] at e
  cases e
  simp only [Lit.wf, Bool.and_eq_true, decide_eq_true_eq] at hw
  have e1 : IntKind.u64.min = 0 := rfl
  have e2 : IntKind.u64.max = 18446744073709551615 := rfl
  exact ⟨n.toNat, by rw [Int.toNat_of_nonneg (by omega)], by omega⟩
end
theorem own : ownKnob Try.prog.godebug = none := by kernel_rfl

/-! ### The row's step -/
set_option maxRecDepth 100000 in
theorem lifted (os : Os) (started : os.Started) (H : Type) (enc : TypeId × Value → H) :
    ReturnsInHanded {} Try.checked os 3 .any (Rows.stallNumbersSpec.pre6 enc Try.prog Try.f3 Rows.stallNumbersRow.domain false) (Rows.stallNumbersSpec.post enc Try.prog Try.f3 false true false false) := by
  refine returnsInHanded_of_change_sized (C := Try.checked) own started (by kernel_rfl) Try.func3
    (ChangeSpec.witness6 (enc := enc) (C := Try.checked) false ⟨#[], #[.agg ⟨[.int .u8 0, .int .i64 0, .int .i64 0]⟩, .int .u64 0, .int .u64 0], []⟩ 8 (by kernel_rfl) (by kernel_rfl) (by kernel_rfl) (by kernel_rfl)) ?_
  intro W base args ds gs before hval0 hW hcnd hsz _
  have hval : ∀ (j : Nat) t v, Try.f3.params[j]? = some t → args[j]? = some v → Value.okWide Try.prog W .any base t v := hval0
  have hW' := hW
  obtain ⟨p, q, hA0, hV, rfl, hfz, hnd⟩ := hW
  have hA : DataW.TrodAll enc Try.prog W 0 (fun _ => true) true Try.f3.params.toList args.toList ds p := hA0
  have hsz2 : (DataW.weightsEach Try.prog (Try.f3.params.toList ++ []) (ds ++ gs)).all (· ≤ reachBytes) = true := hsz
  rw [Try.params3] at hA hval hsz2
  obtain ⟨v0, vs0, d0, ds0, p0, q0, hargs, rfl, rfl, h0, r0⟩ := trodAll_cons hA
  obtain ⟨v1, vs1, d1, ds1, p1, q1, hargs1, rfl, rfl, h1, r1⟩ := trodAll_cons r0
  obtain ⟨v2, vs2, d2, ds2, p2, q2, hargs2, rfl, rfl, h2, r2⟩ := trodAll_cons r1
  obtain ⟨rfl, rfl, rfl⟩ := trodAll_nil r2
  subst hargs2
  subst hargs1
  obtain rfl : args = #[v0, v1, v2] := by cases args; simp_all
  obtain ⟨rfl, rfl⟩ := trodVars_none hV
  have hok := hval 0 23 v0 rfl rfl
  have hok1 := hval 1 24 v1 rfl rfl
  have hok2 := hval 2 24 v2 rfl rfl
  clear hA0 hval0 hsz hsz2 hval
  have h0' := h0
  have h1' := h1
  have h2' := h2
  obtain ⟨kd, sl, k, rfl⟩ := open_eng hok h0
  obtain ⟨s, rfl, hs⟩ := open_u64 hok1 h1
  obtain ⟨v, rfl, hv⟩ := open_u64 hok2 h2
  simp only [List.append_nil] at hW'
  have hrel : VRels (viewG []) [.agg ⟨[.int .u8 kd, .int .i64 sl, .int .i64 k]⟩, .int .u64 (s : Int), .int .u64 (v : Int)] [.agg ⟨[.int .u8 kd, .int .i64 sl, .int .i64 k]⟩, .int .u64 (s : Int), .int .u64 (v : Int)] :=
    .cons _ _ _ _ (.agg _ _ (.cons _ _ _ _ (.int _ _) (.cons _ _ _ _ (.int _ _) (.cons _ _ _ _ (.int _ _) .nil)))) (.cons _ _ _ _ (.int _ _) (.cons _ _ _ _ (.int _ _) .nil))
  refine (law_views2 OSok orders (vs := []) (fun k v h => by simp at h) hrel (numbers kd sl k s v hs hv _ _ (viewH_wf _))).mono fun e W' ⟨he, hg, hbel⟩ => ?_
  subst he
  have hlt : ∀ x ∈ p0 ++ (p1 ++ p2), x.block < W.heap.size := fun x hx => hW'.lt x (by simpa using hx)
  exact ⟨_, rfl, Am.post_of_sameA (pa := p0 ++ (p1 ++ p2)) (pv := []) hW' (fun _ _ _ => (trodAll_cons_mk (shut_bool Try.underlying4 _) trodAll_mk0))
    (fun sp hsp => by
      have g2 := WideElems.Trod_stays (sp' := sp) laidOut (by kernel_rfl) (of_decide_eq_true (by kernel_rfl)) h2' (fun x hx => hbel.same (hlt x (by simp [hx]))) (fun x hx => hsp x (by simp [hx]))
      have g1 := WideElems.Trod_stays (sp' := sp) laidOut (by kernel_rfl) (of_decide_eq_true (by kernel_rfl)) h1' (fun x hx => hbel.same (hlt x (by simp [hx]))) (fun x hx => hsp x (by simp [hx]))
      have g0 := WideElems.Trod_stays (sp' := sp) laidOut (by kernel_rfl) (of_decide_eq_true (by kernel_rfl)) h0' (fun x hx => hbel.same (hlt x (by simp [hx]))) (fun x hx => hsp x (by simp [hx]))
      have := trodAll_cons_mk g0 (trodAll_cons_mk g1 (trodAll_cons_mk g2 trodAll_mk0))
      rw [List.append_nil] at this
      exact this) (fun _ _ => rfl) (by simp)
    hg (ok_one (by kernel_rfl) rfl (okWide_bool_mk Try.underlying4 _))⟩

theorem over : Rows.stallNumbersRow.holds Try.pinned (OpenSpec.ofChange Rows.stallNumbersSpec) :=
  OpenClaim.holds_of_wide 3 Try.f3 rfl rfl rfl rfl rfl rfl rfl ⟨rfl, rfl, rfl, rfl, rfl⟩ rfl rfl rfl rfl rfl (by kernel_rfl) Try.func3 (by kernel_rfl)
    (of_decide_eq_true (by kernel_rfl)) (by unfold Func.isWrapper; first | (rw [if_pos (by decide +kernel)]; kernel_rfl) | (rw [if_neg (by decide +kernel)]; exact ⟨rfl, rfl⟩))
    (fun os started H enc _ => lifted os started H enc)

/-- The statement. -/
theorem proved : Rows.StallNumbersSaid :=
  over
#print axioms proved
end Go.Proofs.Ytknelmeaegldmaa.stallNumbers
