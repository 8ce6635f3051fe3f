/-
  A part of the proof of the laws of layer 9: contracts of inner functions.
-/
import Derived.Test.YtakfjoelpploeaaL9T
import Derived.Test.YtakfjoelpploeaaAmY6
set_option linter.unusedVariables false
namespace Go.Proofs.Ytakfjoelpploeaa
open Go.Am Go.RowKit

theorem cells31 : Try.prog.cellsOf 31 = 16 := by kernel_rfl
theorem cells28 : Try.prog.cellsOf 28 = 3 := by kernel_rfl
theorem cells29 : Try.prog.cellsOf 29 = 6 := by kernel_rfl
theorem cells26 : Try.prog.cellsOf 26 = 1 := by kernel_rfl
theorem cells3 : Try.prog.cellsOf 3 = 1 := by kernel_rfl
theorem cells5 : Try.prog.cellsOf 5 = 1 := by kernel_rfl
theorem cells42 : Try.prog.cellsOf 42 = 1 := by kernel_rfl
theorem bytes42 : Try.prog.bytesOf 42 = 8 := by kernel_rfl
theorem laidOut : laidOutB Try.prog = true := by kernel_rfl
theorem cellTypes31 : Try.prog.cellTypes Try.prog.depth 31 = some [3, 3, 5, 3, 5, 3, 26, 3, 3, 3, 3, 3, 3, 3, 3, 3] := by kernel_rfl

theorem list16 {α : Type} {cs : List α} (h : cs.length = 16) : ∃ c0 c1 c2 c3 c4 c5 c6 c7 c8 c9 c10 c11 c12 c13 c14 c15, cs = [c0, c1, c2, c3, c4, c5, c6, c7, c8, c9, c10, c11, c12, c13, c14, c15] := by
  match cs, h with
  | [c0, c1, c2, c3, c4, c5, c6, c7, c8, c9, c10, c11, c12, c13, c14, c15], _ => exact ⟨c0, c1, c2, c3, c4, c5, c6, c7, c8, c9, c10, c11, c12, c13, c14, c15, rfl⟩

section
variable {H : Type} {enc : TypeId × Value → H} {w : World} {base : Nat} {held : Bool}

/-- A part of one cell, a number. -/
theorem part_int {fuel : Nat} {t : TypeId} {k : IntKind} {c : Value} {y : DataW H × List MemPlace} (ht : Try.prog.underlying t = some (.int k)) (h : DataW.trod enc Try.prog w base (fun _ => true) held fuel t [c] = some y) : ∃ n, c = .int k n ∧ (Lit.int k n).wf = true := by
  obtain ⟨n, e, hw⟩ := trod_int ht h
  simp only [List.cons.injEq, and_true] at e
  exact ⟨n, e, hw⟩

theorem part_towers {fuel : Nat} {c0 c1 c2 c3 c4 c5 : Value} {y : DataW H × List MemPlace} (h : DataW.trod enc Try.prog w base (fun _ => true) held fuel 29 [c0, c1, c2, c3, c4, c5] = some y) :
    ∃ t0 t1 t2 t3 t4 t5, (c0 = .int .i64 t0 ∧ (Lit.int .i64 t0).wf = true) ∧ (c1 = .int .i64 t1 ∧ (Lit.int .i64 t1).wf = true) ∧ (c2 = .int .i64 t2 ∧ (Lit.int .i64 t2).wf = true) ∧ (c3 = .int .i64 t3 ∧ (Lit.int .i64 t3).wf = true) ∧ (c4 = .int .i64 t4 ∧ (Lit.int .i64 t4).wf = true) ∧ (c5 = .int .i64 t5 ∧ (Lit.int .i64 t5).wf = true) := by
  obtain ⟨-, fuel', ha⟩ := trod_array Try.underlying29 h
  rw [cells3] at ha
  obtain ⟨y0, h0⟩ := ha 0 (by omega)
  obtain ⟨y1, h1⟩ := ha 1 (by omega)
  obtain ⟨y2, h2⟩ := ha 2 (by omega)
  obtain ⟨y3, h3⟩ := ha 3 (by omega)
  obtain ⟨y4, h4⟩ := ha 4 (by omega)
  obtain ⟨y5, h5⟩ := ha 5 (by omega)
  obtain ⟨t0, p0⟩ := part_int Try.underlying3 h0
  obtain ⟨t1, p1⟩ := part_int Try.underlying3 h1
  obtain ⟨t2, p2⟩ := part_int Try.underlying3 h2
  obtain ⟨t3, p3⟩ := part_int Try.underlying3 h3
  obtain ⟨t4, p4⟩ := part_int Try.underlying3 h4
  obtain ⟨t5, p5⟩ := part_int Try.underlying3 h5
  exact ⟨t0, t1, t2, t3, t4, t5, p0, p1, p2, p3, p4, p5⟩

/-- A configuration among the arguments. -/
theorem open_cfg {v : Value} {d : DataW H} {p : List MemPlace} {base' : Nat} (hok : Value.okWide Try.prog w .any base' 31 v) (h : DataW.Trod enc Try.prog w base (fun _ => true) held 31 v d p) (hz : ∀ n ∈ d.weights Try.prog 31, n ≤ reachBytes) :
    ∃ th sl en bu kd dn t0 t1 t2 t3 t4 t5 lo tr ba s' vs s xs, v = .agg ⟨[.int .i64 th, .int .i64 sl, .int .u8 en, .int .i64 bu, .int .u8 kd, .int .i64 dn, s', .int .i64 t0, .int .i64 t1, .int .i64 t2, .int .i64 t3, .int .i64 t4, .int .i64 t5, .int .i64 lo, .int .i64 tr, .int .i64 ba]⟩ ∧
      ViewOk vs w ∧ VRel (viewG vs) s s' ∧ IsInts .u64 (viewH vs) s xs ∧ xs.length ≤ reachBytes ∧ (∀ n ∈ xs, (Lit.int .u64 n).wf = true) ∧
      ((Lit.int .i64 th).wf = true ∧ (Lit.int .i64 sl).wf = true ∧ (Lit.int .u8 en).wf = true ∧ (Lit.int .i64 bu).wf = true ∧ (Lit.int .u8 kd).wf = true ∧ (Lit.int .i64 dn).wf = true) ∧
      ((Lit.int .i64 t0).wf = true ∧ (Lit.int .i64 t1).wf = true ∧ (Lit.int .i64 t2).wf = true ∧ (Lit.int .i64 t3).wf = true ∧ (Lit.int .i64 t4).wf = true ∧ (Lit.int .i64 t5).wf = true) ∧
      ((Lit.int .i64 lo).wf = true ∧ (Lit.int .i64 tr).wf = true ∧ (Lit.int .i64 ba).wf = true) ∧ (∀ a n c, s = .slice a n c → n ≤ c ∧ c < capInf) := by
  unfold Value.okWide at hok
  rw [Try.underlying31] at hok
  obtain ⟨⟨cs⟩, rfl, hsz, ts, hts, -, hcell⟩ := hok
  rw [cellTypes31] at hts
  obtain rfl := Option.some.inj hts
  rw [cells31] at hsz
  obtain ⟨c0, c1, c2, c3, c4, c5, c6, c7, c8, c9, c10, c11, c12, c13, c14, c15, e⟩ := list16 hsz
  subst e
  obtain ⟨fuel, h⟩ := h
  obtain ⟨-, fuel', parts, hp, ha⟩ := trod_struct_at Try.underlying31 h
  obtain ⟨y0, -, h0⟩ := ha 0 _ rfl
  obtain ⟨y1, -, h1⟩ := ha 1 _ rfl
  obtain ⟨y2, -, h2⟩ := ha 2 _ rfl
  obtain ⟨y3, -, h3⟩ := ha 3 _ rfl
  obtain ⟨y4, q4, h4⟩ := ha 4 _ rfl
  obtain ⟨y5, -, h5⟩ := ha 5 _ rfl
  obtain ⟨y6, -, h6⟩ := ha 6 _ rfl
  obtain ⟨y7, -, h7⟩ := ha 7 _ rfl
  obtain ⟨y8, -, h8⟩ := ha 8 _ rfl
  simp only [cells3, cells5, cells28, cells29] at h0 h1 h2 h3 h4 h5 h6 h7 h8
  obtain ⟨th, rfl, w0⟩ := part_int Try.underlying3 h0
  obtain ⟨sl, rfl, w1⟩ := part_int Try.underlying3 h1
  obtain ⟨en, rfl, w2⟩ := part_int Try.underlying5 h2
  obtain ⟨bu, rfl, w3⟩ := part_int Try.underlying3 h3
  obtain ⟨t0, t1, t2, t3, t4, t5, ⟨rfl, x0⟩, ⟨rfl, x1⟩, ⟨rfl, x2⟩, ⟨rfl, x3⟩, ⟨rfl, x4⟩, ⟨rfl, x5⟩⟩ := part_towers h5
  obtain ⟨lo, rfl, w6⟩ := part_int Try.underlying3 h6
  obtain ⟨tr, rfl, w7⟩ := part_int Try.underlying3 h7
  obtain ⟨ba, rfl, w8⟩ := part_int Try.underlying3 h8
  obtain ⟨-, fuel2, parts2, hp2, hb⟩ := trod_struct_at Try.underlying28 h4
  obtain ⟨z0, -, g0⟩ := hb 0 _ rfl
  obtain ⟨z1, -, g1⟩ := hb 1 _ rfl
  obtain ⟨z2, r2, g2⟩ := hb 2 _ rfl
  simp only [cells3, cells5, cells26] at g0 g1 g2
  obtain ⟨kd, rfl, w4⟩ := part_int Try.underlying5 g0
  obtain ⟨dn, rfl, w5⟩ := part_int Try.underlying3 g1
  obtain ⟨vs, s, s', xs, e, hvs, hvr, hin, hlen, hwf, hcp⟩ := open_ints (base' := base') Try.underlying26 Try.underlying42 cells42 (by rw [bytes42]; omega) g2
    (fun v hv => by
      obtain ⟨u, hu, hc⟩ := hcell 6 v hv
      simp at hu
      subst hu
      exact hc)
    (fun n hn => by
      refine hz n ?_
      have e1 := weights_struct (P := Try.prog) (j := 2) Try.underlying28 rfl r2 n hn
      rw [← hp2] at e1
      have e2 := weights_struct (P := Try.prog) (j := 4) Try.underlying31 rfl q4 n e1
      rw [← hp] at e2
      exact e2)
  cases e
  exact ⟨th, sl, en, bu, kd, dn, t0, t1, t2, t3, t4, t5, lo, tr, ba, _, vs, s, xs, rfl, hvs, hvr, hin, hlen, hwf, ⟨w0, w1, w2, w3, w4, w5⟩, ⟨x0, x1, x2, x3, x4, x5⟩, ⟨w6, w7, w8⟩, hcp⟩
end
end Go.Proofs.Ytakfjoelpploeaa

set_option linter.unusedVariables false
namespace Go.Proofs.Ytakfjoelpploeaa
open Go.Am Go.RowKit

theorem viewG_le (v0 v1 : List View) : (viewG v0).le (viewG (v0 ++ v1)) := by
  refine ⟨fun i x h => ?_, fun b n h => by simp [viewG] at h⟩
  simp only [viewG] at h ⊢
  cases hi : v0[i]? with
  | none => rw [hi] at h; simp at h
  | some v =>
    rw [hi] at h
    rw [List.getElem?_append_left (List.getElem?_eq_some_iff.1 hi).1, hi]
    exact h
theorem viewH_kept (v0 v1 : List View) : Kept (viewH v0) (viewH (v0 ++ v1)) := by
  intro i B h
  rw [viewH_get] at h ⊢
  cases hi : v0[i]? with
  | none => rw [hi] at h; simp at h
  | some v =>
    rw [hi] at h
    rw [List.getElem?_append_left (List.getElem?_eq_some_iff.1 hi).1, hi]
    exact h
theorem viewOk_snoc {v0 : List View} {v : View} {w : World} (h0 : ViewOk v0 w) (h1 : ∃ cs el fz, w.heap[v.b]? = some (.cells cs el fz) ∧ ∀ (i : Nat) (x : Value), v.L[i]? = some x → ∃ x', cs[v.s + i]? = some x' ∧ VRel (viewG (v0 ++ [v])) x x') : ViewOk (v0 ++ [v]) w := by
  intro k u hk
  rcases Nat.lt_trichotomy k v0.length with q | q | q
  · rw [List.getElem?_append_left q] at hk
    obtain ⟨cs, el, fz, e1, e2⟩ := h0 k u hk
    exact ⟨cs, el, fz, e1, fun i x hx => by obtain ⟨x', a, b⟩ := e2 i x hx; exact ⟨x', a, b.mono (viewG_le v0 [v])⟩⟩
  · subst q
    rw [List.getElem?_append_right (Nat.le_refl _), Nat.sub_self] at hk
    simp only [List.getElem?_cons_zero, Option.some.injEq] at hk
    subst hk
    exact h1
  · rw [List.getElem?_eq_none (by simp; omega)] at hk; simp at hk

/-- What is asked: five numbers. -/
abbrev Ask5 := Int × Int × Int × Int × Int
def askC (x : Ask5) : List Value := [.int .i64 x.1, .int .i64 x.2.1, .int .i64 x.2.2.1, .int .i64 x.2.2.2.1, .int .i64 x.2.2.2.2]
def askCs (A : List Ask5) : List Value := A.flatMap askC
theorem askCs_length : ∀ A : List Ask5, (askCs A).length = A.length * 5
  | [] => rfl
  | x :: W => by
    have := askCs_length W
    unfold askCs at *
    rw [List.flatMap_cons, List.length_append, this]
    simp only [askC, List.length_cons, List.length_nil]; omega
theorem askCs_drop : ∀ (W : List Ask5) (i : Nat), (askCs W).drop (i * 5) = askCs (W.drop i)
  | W, 0 => by simp
  | [], i + 1 => by simp [askCs]
  | y :: ys, i + 1 => by
    have : (i + 1) * 5 = i * 5 + 5 := by omega
    rw [this]
    simp only [List.drop_succ_cons]
    rw [← askCs_drop ys i]
    simp [askCs, askC]
theorem askCs_get {A : List Ask5} {i : Nat} {x : Value} (h : (askCs A)[i]? = some x) : ∃ y, A[i / 5]? = some y ∧ (askC y)[i % 5]? = some x := by
  have hi := (List.getElem?_eq_some_iff.1 h).1
  rw [askCs_length] at hi
  have hq : i / 5 < A.length := by omega
  refine ⟨A[i / 5], List.getElem?_eq_getElem hq, ?_⟩
  have e : i = i / 5 * 5 + i % 5 := by omega
  rw [e, ← List.getElem?_drop, askCs_drop, List.drop_eq_getElem_cons hq] at h
  unfold askCs at h
  rw [List.flatMap_cons, List.getElem?_append_left (by simp [askC]; omega)] at h
  exact h

theorem cells56 : Try.prog.cellsOf 56 = 5 := by kernel_rfl
theorem bytes56 : Try.prog.bytesOf 56 = 40 := by kernel_rfl
theorem cells54 : Try.prog.cellsOf 54 = 1 := by kernel_rfl
theorem cellTypes54 : Try.prog.cellTypes Try.prog.depth 54 = some [54] := by kernel_rfl
theorem list5 {α : Type} {cs : List α} (h : cs.length = 5) : ∃ c0 c1 c2 c3 c4, cs = [c0, c1, c2, c3, c4] := by
  match cs, h with
  | [c0, c1, c2, c3, c4], _ => exact ⟨c0, c1, c2, c3, c4, rfl⟩

section
variable {H : Type} {enc : TypeId × Value → H} {w : World} {base : Nat} {held : Bool}
theorem cells?_at {n : Nat} {a : Addr} {l : List Value} (h : w.cells? base a n = some l) {i : Nat} {c : Value} (hc : l[i]? = some c) : w.cell? (a.add i) = some c := by
  unfold World.cells? at h
  split at h
  · have hl := mapM_some_length h
    have hi : i < n := by have := (List.getElem?_eq_some_iff.1 hc).1; rw [hl, List.length_range] at this; exact this
    have := mapM_some_get h i i (by simp [hi])
    rw [← hc]; exact this
  · simp at h
theorem ask_cells {fuel : Nat} {l : List Value} {y : DataW H × List MemPlace} (h : DataW.trod enc Try.prog w base (fun _ => true) held fuel 56 l = some y) : ∃ x : Ask5, l = askC x ∧ ∀ n ∈ [x.1, x.2.1, x.2.2.1, x.2.2.2.1, x.2.2.2.2], (Lit.int .i64 n).wf = true := by
  obtain ⟨hl, fuel', parts, hp, ha⟩ := trod_struct_at Try.underlying56 h
  rw [cells56] at hl
  obtain ⟨c0, c1, c2, c3, c4, rfl⟩ := list5 hl
  obtain ⟨y0, -, h0⟩ := ha 0 _ rfl
  obtain ⟨y1, -, h1⟩ := ha 1 _ rfl
  obtain ⟨y2, -, h2⟩ := ha 2 _ rfl
  obtain ⟨y3, -, h3⟩ := ha 3 _ rfl
  obtain ⟨y4, -, h4⟩ := ha 4 _ rfl
  simp only [cells3] at h0 h1 h2 h3 h4
  obtain ⟨n0, rfl, w0⟩ := part_int Try.underlying3 h0
  obtain ⟨n1, rfl, w1⟩ := part_int Try.underlying3 h1
  obtain ⟨n2, rfl, w2⟩ := part_int Try.underlying3 h2
  obtain ⟨n3, rfl, w3⟩ := part_int Try.underlying3 h3
  obtain ⟨n4, rfl, w4⟩ := part_int Try.underlying3 h4
  exact ⟨(n0, n1, n2, n3, n4), rfl, by simp [w0, w1, w2, w3, w4]⟩

/-- The asks among the arguments. -/
theorem open_asks {v : Value} {d : DataW H} {p : List MemPlace} {base' : Nat} {v0 : List View} (hv0 : ViewOk v0 w) (hok : Value.okWide Try.prog w .any base' 54 v) (h : DataW.Trod enc Try.prog w base (fun _ => true) held 54 v d p) (hz : ∀ n ∈ d.weights Try.prog 54, n ≤ reachBytes) :
    ∃ (v1 : List View) (sl : Value) (A : List Ask5), ViewOk (v0 ++ v1) w ∧ VRel (viewG (v0 ++ v1)) sl v ∧ (∀ x ∈ A, ∀ n ∈ [x.1, x.2.1, x.2.2.1, x.2.2.2.1, x.2.2.2.2], (Lit.int .i64 n).wf = true) ∧ A.length ≤ reachBytes ∧
      ((sl = .slice none 0 0 ∧ A = []) ∨ ∃ cap, sl = .slice (some ⟨v0.length, 0, none⟩) A.length cap ∧ (viewH (v0 ++ v1)).get v0.length = some (.cells (PT.ofList .leaf 0 (askCs A)) true)) := by
  unfold Value.okWide at hok
  rw [Try.underlying54] at hok
  simp only at hok
  obtain ⟨fuel, h⟩ := h
  have hv : ∃ a len cap, v = .slice a len cap := by
    unfold Cell.okWide at hok
    rw [Try.underlying54] at hok
    cases v <;> first | exact ⟨_, _, _, rfl⟩ | (simp [Cell.ok, Try.underlying54] at hok; done)
  obtain ⟨a0, len, cap, rfl⟩ := hv
  rcases trod_slice_at Try.underlying54 h with e | ⟨a, len', cap', elems, rest, e, hx, hcap, hle, fuel', hel⟩
  · simp only [Value.cells, List.cons.injEq, and_true] at e
    cases e
    exact ⟨[], .slice none 0 0, [], by rw [List.append_nil]; exact hv0, .nilslice 0 0, by simp, by simp, .inl ⟨rfl, rfl⟩⟩
  · simp only [Value.cells, List.cons.injEq, and_true] at e
    cases e
    unfold Cell.okWide at hok
    rw [Try.underlying54] at hok
    simp only [Cell.ok, Try.underlying54] at hok
    obtain ⟨-, -, -, hspot, row, cells, hshape, -⟩ := hok
    have hcells : ∃ c el fz, w.heap[a.block]? = some (.cells c el fz) := by
      unfold World.shape? at hshape
      split at hshape
      · exact ⟨_, _, _, by assumption⟩
      · simp at hshape
    obtain ⟨c, el, fz, hc⟩ := hcells
    obtain ⟨A, hAl, hAs⟩ : ∃ A : List Ask5, A.length = len ∧ ∀ (i : Nat) x, A[i]? = some x → (∀ (j : Nat) u, (askC x)[j]? = some u → c[a.off + (i * 5 + j)]? = some u) ∧ ∀ n ∈ [x.1, x.2.1, x.2.2.1, x.2.2.2.1, x.2.2.2.2], (Lit.int .i64 n).wf = true := by
      refine list_of len fun i hi => ?_
      obtain ⟨l, y, hl, -, hy⟩ := hel i hi
      rw [cells56] at hl
      obtain ⟨x, rfl, hw⟩ := ask_cells hy
      refine ⟨x, fun j u hu => ?_, hw⟩
      have hv := cells?_at hl hu
      unfold World.cell? at hv
      have e0 : (a.add (i * 5)).add j = ⟨a.block, a.off + (i * 5 + j), none⟩ := by
        obtain ⟨ab, ao, asp⟩ := a
        simp only at hspot
        subst hspot
        unfold Addr.add
        by_cases hi0 : i * 5 = 0
        · by_cases hj0 : j = 0
          · simp [hi0, hj0]
          · simp [hi0, hj0]
        · by_cases hj0 : j = 0
          · simp [hi0, hj0]
          · simp [hi0, hj0, Nat.add_assoc]
      rw [e0] at hv
      simp only [hc] at hv
      simpa using hv
    have hsz : cap * Try.prog.bytesOf 56 ≤ reachBytes := by
      refine hz _ ?_
      simp only at hx
      rw [hx]
      simp only [DataW.weights, Try.underlying54]
      rw [hcap]
      exact List.mem_cons_self
    rw [bytes56] at hsz
    have hlt : ¬ capInf ≤ cap := by
      have : reachBytes < capInf := by decide
      omega
    subst hAl
    have hget : ∀ i x, (askCs A)[i]? = some x → c[a.off + i]? = some x ∧ VRel (viewG (v0 ++ [⟨a.block, a.off, askCs A⟩])) x x := by
      intro i x hx
      obtain ⟨y, h1, h2⟩ := askCs_get hx
      have h3 := (hAs _ _ h1).1 _ _ h2
      rw [show i / 5 * 5 + i % 5 = i by omega] at h3
      refine ⟨h3, ?_⟩
      have hm := List.mem_of_getElem? h2
      simp only [askC, List.mem_cons, List.not_mem_nil, or_false] at hm
      rcases hm with rfl | rfl | rfl | rfl | rfl <;> exact .int _ _
    refine ⟨[⟨a.block, a.off, askCs A⟩], .slice (some ⟨v0.length, 0, none⟩) A.length cap, A, viewOk_snoc hv0 ⟨c, el, fz, hc, fun i x hx => ⟨x, hget i x hx⟩⟩, ?_, fun x hx => ?_, by omega, .inr ⟨cap, rfl, ?_⟩⟩
    · refine .slice _ _ _ _ _ (.inl ⟨rfl, hspot, a.off, ?_, rfl⟩) ?_
      · simp [viewG]
      · unfold Emb.cap
        rw [if_neg hlt]
    · obtain ⟨i, hi⟩ := List.getElem?_of_mem hx
      exact (hAs i x hi).2
    · rw [viewH_get, List.getElem?_append_right (Nat.le_refl _), Nat.sub_self]; rfl
end
end Go.Proofs.Ytakfjoelpploeaa
