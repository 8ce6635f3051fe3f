/-
  A part of the proof: contracts of inner functions.
-/
import Derived.Test.YtapcgfakefmemaaTXH
import Derived.Test.YtapcgfakefmemaaAmU5
set_option linter.unusedVariables false
set_option linter.unusedSimpArgs false
namespace Go.Proofs.Ytapcgfakefmemaa
open Go.Am
def toC (x : List Int) : CellT := (x.getD 0 0, x.getD 1 0, x.getD 2 0, x.getD 3 0, x.getD 4 0)
theorem celL_rows : ∀ {A : List (List Int)}, RowsOk [.int .u64, .int .u64, .int .u8, .int .u8, .int .u8] A → rowsL [.int .u64, .int .u64, .int .u8, .int .u8, .int .u8] A = celL (A.map toC)
  | [], _ => rfl
  | x :: A, h => by
    have ih := celL_rows h.tail
    obtain ⟨hl, -⟩ := h x (by simp)
    match x, hl with
    | [a, b, c, d, e], _ =>
      unfold rowsL celL at *
      rw [List.map_cons, List.flatMap_cons, List.flatMap_cons, ih]
      rfl
theorem cells_ok {h : PT ABlk} {q : Nat} {s : Value} {A : List (List Int)} (H : IsRows [.int .u64, .int .u64, .int .u8, .int .u8, .int .u8] h q s A) : IsCells h s (A.map toC) ∧ ∀ j, j < (A.map toC).length → CellOk (cel (A.map toC) j) := by
  obtain ⟨h1, h2⟩ := H
  refine ⟨?_, fun j hj => ?_⟩
  · rcases h2 with ⟨rfl, rfl⟩ | ⟨cap, rfl, -, -, e4⟩
    · exact ⟨none, 0, rfl, fun i hi => by simp at hi⟩
    · rw [celL_rows h1] at e4
      exact ⟨_, cap, by rw [List.length_map], fun i _ => ⟨q, true, rfl, e4⟩⟩
  · rw [List.length_map] at hj
    obtain ⟨hl, hw⟩ := h1 A[j] (List.getElem_mem hj)
    have e : cel (A.map toC) j = toC A[j] := by unfold cel; simp [List.getD, hj]
    rw [e]
    generalize A[j] = x at *
    match x, hl with
    | [a, b, c, d, e], _ =>
      obtain ⟨w0, w1, w2, w3, w4, -⟩ := hw
      exact ⟨u64_of_wf w0, u64_of_wf w1, u8_of_wf w2, u8_of_wf w3, u8_of_wf w4⟩
end Go.Proofs.Ytapcgfakefmemaa
