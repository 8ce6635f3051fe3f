/-
  A part of the proof of the laws of layer 9: contracts of inner functions.
-/
import Derived.Test.YtakfjoelpploeaaL9T
import Derived.Test.YtakfjoelpploeaaAmY6
set_option linter.unusedVariables false
namespace Go.Proofs.Ytakfjoelpploeaa
open Go.Am Go.RowKit

theorem cells31 : Try.prog.cellsOf 31 = 16 := by kernel_rfl
theorem cells28 : Try.prog.cellsOf 28 = 3 := by kernel_rfl
theorem cells29 : Try.prog.cellsOf 29 = 6 := by kernel_rfl
theorem cells26 : Try.prog.cellsOf 26 = 1 := by kernel_rfl
theorem cells3 : Try.prog.cellsOf 3 = 1 := by kernel_rfl
theorem cells5 : Try.prog.cellsOf 5 = 1 := by kernel_rfl
theorem cells42 : Try.prog.cellsOf 42 = 1 := by kernel_rfl
theorem bytes42 : Try.prog.bytesOf 42 = 8 := by kernel_rfl
theorem laidOut : laidOutB Try.prog = true := by kernel_rfl
theorem cellTypes31 : Try.prog.cellTypes Try.prog.depth 31 = some [3, 3, 5, 3, 5, 3, 26, 3, 3, 3, 3, 3, 3, 3, 3, 3] := by kernel_rfl

theorem list16 {α : Type} {cs : List α} (h : cs.length = 16) : ∃ c0 c1 c2 c3 c4 c5 c6 c7 c8 c9 c10 c11 c12 c13 c14 c15, cs = [c0, c1, c2, c3, c4, c5, c6, c7, c8, c9, c10, c11, c12, c13, c14, c15] := by
  match cs, h with
  | [c0, c1, c2, c3, c4, c5, c6, c7, c8, c9, c10, c11, c12, c13, c14, c15], _ => exact ⟨c0, c1, c2, c3, c4, c5, c6, c7, c8, c9, c10, c11, c12, c13, c14, c15, rfl⟩

section
variable {H : Type} {enc : TypeId × Value → H} {w : World} {base : Nat} {held : Bool}

/-- A part of one cell, a number. -/
theorem part_int {fuel : Nat} {t : TypeId} {k : IntKind} {c : Value} {y : DataW H × List MemPlace} (ht : Try.prog.underlying t = some (.int k)) (h : DataW.trod enc Try.prog w base (fun _ => true) held fuel t [c] = some y) : ∃ n, c = .int k n ∧ (Lit.int k n).wf = true := by
  obtain ⟨n, e, hw⟩ := trod_int ht h
  simp only [List.cons.injEq, and_true] at e
  exact ⟨n, e, hw⟩

theorem part_towers {fuel : Nat} {c0 c1 c2 c3 c4 c5 : Value} {y : DataW H × List MemPlace} (h : DataW.trod enc Try.prog w base (fun _ => true) held fuel 29 [c0, c1, c2, c3, c4, c5] = some y) :
    ∃ t0 t1 t2 t3 t4 t5, (c0 = .int .i64 t0 ∧ (Lit.int .i64 t0).wf = true) ∧ (c1 = .int .i64 t1 ∧ (Lit.int .i64 t1).wf = true) ∧ (c2 = .int .i64 t2 ∧ (Lit.int .i64 t2).wf = true) ∧ (c3 = .int .i64 t3 ∧ (Lit.int .i64 t3).wf = true) ∧ (c4 = .int .i64 t4 ∧ (Lit.int .i64 t4).wf = true) ∧ (c5 = .int .i64 t5 ∧ (Lit.int .i64 t5).wf = true) := by
  obtain ⟨-, fuel', ha⟩ := trod_array Try.underlying29 h
  rw [cells3] at ha
  obtain ⟨y0, h0⟩ := ha 0 (by omega)
  obtain ⟨y1, h1⟩ := ha 1 (by omega)
  obtain ⟨y2, h2⟩ := ha 2 (by omega)
  obtain ⟨y3, h3⟩ := ha 3 (by omega)
  obtain ⟨y4, h4⟩ := ha 4 (by omega)
  obtain ⟨y5, h5⟩ := ha 5 (by omega)
  obtain ⟨t0, p0⟩ := part_int Try.underlying3 h0
  obtain ⟨t1, p1⟩ := part_int Try.underlying3 h1
  obtain ⟨t2, p2⟩ := part_int Try.underlying3 h2
  obtain ⟨t3, p3⟩ := part_int Try.underlying3 h3
  obtain ⟨t4, p4⟩ := part_int Try.underlying3 h4
  obtain ⟨t5, p5⟩ := part_int Try.underlying3 h5
  exact ⟨t0, t1, t2, t3, t4, t5, p0, p1, p2, p3, p4, p5⟩

/-- A configuration among the arguments. -/
theorem open_cfg {v : Value} {d : DataW H} {p : List MemPlace} {base' : Nat} (hok : Value.okWide Try.prog w .any base' 31 v) (h : DataW.Trod enc Try.prog w base (fun _ => true) held 31 v d p) (hz : ∀ n ∈ d.weights Try.prog 31, n ≤ reachBytes) :
    ∃ th sl en bu kd dn t0 t1 t2 t3 t4 t5 lo tr ba s' vs s xs, v = .agg ⟨[.int .i64 th, .int .i64 sl, .int .u8 en, .int .i64 bu, .int .u8 kd, .int .i64 dn, s', .int .i64 t0, .int .i64 t1, .int .i64 t2, .int .i64 t3, .int .i64 t4, .int .i64 t5, .int .i64 lo, .int .i64 tr, .int .i64 ba]⟩ ∧
      ViewOk vs w ∧ VRel (viewG vs) s s' ∧ IsInts .u64 (viewH vs) s xs ∧ xs.length ≤ reachBytes ∧ (∀ n ∈ xs, (Lit.int .u64 n).wf = true) ∧
      ((Lit.int .i64 th).wf = true ∧ (Lit.int .i64 sl).wf = true ∧ (Lit.int .u8 en).wf = true ∧ (Lit.int .i64 bu).wf = true ∧ (Lit.int .u8 kd).wf = true ∧ (Lit.int .i64 dn).wf = true) ∧
      ((Lit.int .i64 t0).wf = true ∧ (Lit.int .i64 t1).wf = true ∧ (Lit.int .i64 t2).wf = true ∧ (Lit.int .i64 t3).wf = true ∧ (Lit.int .i64 t4).wf = true ∧ (Lit.int .i64 t5).wf = true) ∧
      ((Lit.int .i64 lo).wf = true ∧ (Lit.int .i64 tr).wf = true ∧ (Lit.int .i64 ba).wf = true) ∧ (∀ a n c, s = .slice a n c → n ≤ c ∧ c < capInf) := by
  unfold Value.okWide at hok
  rw [Try.underlying31] at hok
  obtain ⟨⟨cs⟩, rfl, hsz, ts, hts, -, hcell⟩ := hok
  rw [cellTypes31] at hts
  obtain rfl := Option.some.inj hts
  rw [cells31] at hsz
  obtain ⟨c0, c1, c2, c3, c4, c5, c6, c7, c8, c9, c10, c11, c12, c13, c14, c15, e⟩ := list16 hsz
  subst e
  obtain ⟨fuel, h⟩ := h
  obtain ⟨-, fuel', parts, hp, ha⟩ := trod_struct_at Try.underlying31 h
  obtain ⟨y0, -, h0⟩ := ha 0 _ rfl
  obtain ⟨y1, -, h1⟩ := ha 1 _ rfl
  obtain ⟨y2, -, h2⟩ := ha 2 _ rfl
  obtain ⟨y3, -, h3⟩ := ha 3 _ rfl
  obtain ⟨y4, q4, h4⟩ := ha 4 _ rfl
  obtain ⟨y5, -, h5⟩ := ha 5 _ rfl
  obtain ⟨y6, -, h6⟩ := ha 6 _ rfl
  obtain ⟨y7, -, h7⟩ := ha 7 _ rfl
  obtain ⟨y8, -, h8⟩ := ha 8 _ rfl
  simp only [cells3, cells5, cells28, cells29] at h0 h1 h2 h3 h4 h5 h6 h7 h8
  obtain ⟨th, rfl, w0⟩ := part_int Try.underlying3 h0
  obtain ⟨sl, rfl, w1⟩ := part_int Try.underlying3 h1
  obtain ⟨en, rfl, w2⟩ := part_int Try.underlying5 h2
  obtain ⟨bu, rfl, w3⟩ := part_int Try.underlying3 h3
  obtain ⟨t0, t1, t2, t3, t4, t5, ⟨rfl, x0⟩, ⟨rfl, x1⟩, ⟨rfl, x2⟩, ⟨rfl, x3⟩, ⟨rfl, x4⟩, ⟨rfl, x5⟩⟩ := part_towers h5
  obtain ⟨lo, rfl, w6⟩ := part_int Try.underlying3 h6
  obtain ⟨tr, rfl, w7⟩ := part_int Try.underlying3 h7
  obtain ⟨ba, rfl, w8⟩ := part_int Try.underlying3 h8
  obtain ⟨-, fuel2, parts2, hp2, hb⟩ := trod_struct_at Try.underlying28 h4
  obtain ⟨z0, -, g0⟩ := hb 0 _ rfl
  obtain ⟨z1, -, g1⟩ := hb 1 _ rfl
  obtain ⟨z2, r2, g2⟩ := hb 2 _ rfl
  simp only [cells3, cells5, cells26] at g0 g1 g2
  obtain ⟨kd, rfl, w4⟩ := part_int Try.underlying5 g0
  obtain ⟨dn, rfl, w5⟩ := part_int Try.underlying3 g1
  obtain ⟨vs, s, s', xs, e, hvs, hvr, hin, hlen, hwf, hcp⟩ := open_ints (base' := base') Try.underlying26 Try.underlying42 cells42 (by rw [bytes42]; omega) g2
    (fun v hv => by
      obtain ⟨u, hu, hc⟩ := hcell 6 v hv
      simp at hu
      subst hu
      exact hc)
    (fun n hn => by
      refine hz n ?_
      have e1 := weights_struct (P := Try.prog) (j := 2) Try.underlying28 rfl r2 n hn
      rw [← hp2] at e1
      have e2 := weights_struct (P := Try.prog) (j := 4) Try.underlying31 rfl q4 n e1
      rw [← hp] at e2
      exact e2)
  cases e
  exact ⟨th, sl, en, bu, kd, dn, t0, t1, t2, t3, t4, t5, lo, tr, ba, _, vs, s, xs, rfl, hvs, hvr, hin, hlen, hwf, ⟨w0, w1, w2, w3, w4, w5⟩, ⟨x0, x1, x2, x3, x4, x5⟩, ⟨w6, w7, w8⟩, hcp⟩
end
end Go.Proofs.Ytakfjoelpploeaa
