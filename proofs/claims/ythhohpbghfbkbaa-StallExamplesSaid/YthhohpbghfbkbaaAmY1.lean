/-
  The abstract machine, for proofs with variables: loops; slices of numbers as lists.
-/
import Derived.Test.YthhohpbghfbkbaaAmX9
set_option linter.unusedSimpArgs false
set_option linter.unusedVariables false
namespace Go.Am

@[go_sem] theorem wrap_i64 {x : Int} (h1 : -9223372036854775808 ≤ x) (h2 : x < 9223372036854775808) : IntKind.i64.wrap x = x := by
  unfold IntKind.wrap
  have e1 : (2 : Int) ^ IntKind.i64.bits = 18446744073709551616 := by rfl
  have e2 : (2 : Int) ^ (IntKind.i64.bits - 1) = 9223372036854775808 := by rfl
  simp only [e1, e2, IntKind.signed, Bool.true_and, decide_eq_true_eq]
  split <;> omega
@[go_sem] theorem wrap_u64 {x : Int} (h1 : 0 ≤ x) (h2 : x < 18446744073709551616) : IntKind.u64.wrap x = x := by
  unfold IntKind.wrap
  simp only [IntKind.bits, IntKind.signed, Bool.false_and, if_false]
  simp only [Bool.false_eq_true, if_false]
  omega
@[go_sem] theorem wrap_u8 {x : Int} (h1 : 0 ≤ x) (h2 : x < 256) : IntKind.u8.wrap x = x := by
  unfold IntKind.wrap
  simp only [IntKind.bits, IntKind.signed, Bool.false_and]
  simp only [Bool.false_eq_true, if_false]
  omega
@[go_sem] theorem cast_zero_int : ((0 : Nat) : Int) = 0 := rfl

/-- A loop: what holds at its head, by a measure. -/
theorem ind_loop {z : Zx} {c : Code} {K : List KF} (I : Nat → Tm → PT ABlk → Nat → Prop) {m : Tm} {h : PT ABlk} {n : Nat} (t : Nat) (h0 : I t m h n)
    (step : ∀ t m h n, (∀ t' m' h' n', t' < t → I t' m' h' n' → EvK z (.loop c) K m' h' n') → I t m h n → EvK z c (.loop c :: K) m h n) : EvK z (.loop c) K m h n := by
  have key : ∀ k t m h n, t < k → I t m h n → EvK z (.loop c) K m h n := by
    intro k
    induction k with
    | zero => intro t m h n ht; omega
    | succ k ih =>
      intro t m h n ht hI
      rw [EvK_loop]
      exact step t m h n (fun t' m' h' n' ht' hI' => ih t' m' h' n' (by omega) hI') hI
  exact key (t + 1) t m h n (by omega) h0

/-- A slice of numbers. -/
def IsInts (k : IntKind) (h : PT ABlk) (s : Value) (xs : List Int) : Prop :=
  (s = .slice none 0 0 ∧ xs = []) ∨ ∃ b off sp cap L ro, s = .slice (some ⟨b, off, sp⟩) xs.length cap ∧ h.get b = some (.cells (PT.ofList .leaf 0 L) ro) ∧ (Nat.ble (off + xs.length) L.length || Nat.beq xs.length 0) = true ∧ (L.drop off).take xs.length = xs.map (.int k)

/-- Three shapes: nil; empty; in a row. -/
theorem IsInts.shapes {k : IntKind} {h : PT ABlk} {s : Value} {xs : List Int} (hs : IsInts k h s xs) : (s = .slice none 0 0 ∧ xs = []) ∨ (∃ b off sp cap L ro, s = .slice (some ⟨b, off, sp⟩) 0 cap ∧ xs = [] ∧ h.get b = some (.cells (PT.ofList .leaf 0 L) ro)) ∨
    ∃ b off sp cap L ro, s = .slice (some ⟨b, off, sp⟩) xs.length cap ∧ h.get b = some (.cells (PT.ofList .leaf 0 L) ro) ∧ off + xs.length ≤ L.length ∧ (L.drop off).take xs.length = xs.map (.int k) := by
  rcases hs with hs | ⟨b, off, sp, cap, L, ro, rfl, hb, hB, hT⟩
  · exact .inl hs
  · simp only [Bool.or_eq_true] at hB
    rcases hB with hB | hB
    · exact .inr (.inr ⟨b, off, sp, cap, L, ro, rfl, hb, Nat.le_of_ble_eq_true hB, hT⟩)
    · have := Nat.eq_of_beq_eq_true hB
      obtain rfl : xs = [] := List.eq_nil_of_length_eq_zero this
      exact .inr (.inl ⟨b, off, sp, cap, L, ro, rfl, rfl, hb⟩)

theorem isInts_at {k : IntKind} {L : List Value} {off : Nat} {xs : List Int} (hT : (L.drop off).take xs.length = xs.map (.int k)) (i : Nat) (hi : i < xs.length) : L[off + i]? = some (.int k (xs.getD i 0)) := by
  have h2 : ((L.drop off).take xs.length)[i]? = (xs.map (Value.int k))[i]? := by rw [hT]
  rw [List.getElem?_take, if_pos hi, List.getElem?_drop] at h2
  rw [h2, List.getElem?_map, List.getElem?_eq_getElem hi]
  simp [List.getD, List.getElem?_eq_getElem hi]

theorem IsInts.len {k : IntKind} {h : PT ABlk} {s : Value} {xs : List Int} (hs : IsInts k h s xs) : ∃ a cap, s = .slice a xs.length cap ∧ ∀ i, i < xs.length → ∃ b off sp L ro, a = some ⟨b, off, sp⟩ ∧ h.get b = some (.cells (PT.ofList .leaf 0 L) ro) ∧ L[off + i]? = some (.int k (xs.getD i 0)) := by
  rcases hs with ⟨rfl, rfl⟩ | ⟨b, off, sp, cap, L, ro, rfl, hb, _, hT⟩
  · exact ⟨none, 0, rfl, fun i hi => by simp at hi⟩
  · exact ⟨_, cap, rfl, fun i hi => ⟨b, off, sp, L, ro, rfl, hb, isInts_at hT i hi⟩⟩

def decInts (k : IntKind) : List Value → Option (List Int)
  | [] => some []
  | .int k' x :: r => if k' = k then (decInts k r).map (x :: ·) else none
  | _ :: _ => none

theorem decInts_eq {k : IntKind} : ∀ {l : List Value} {xs : List Int}, decInts k l = some xs → l = xs.map (.int k)
  | [], xs, e => by simp only [decInts, Option.some.injEq] at e; subst e; rfl
  | v :: r, xs, e => by
    unfold decInts at e
    split at e
    · rename_i h; simp at h
    · rename_i k' x r' hr
      split at e
      · rename_i hk
        subst hk
        simp only [List.cons.injEq] at hr
        obtain ⟨rfl, rfl⟩ := hr
        cases hd : decInts k' r with
        | none => rw [hd] at e; simp at e
        | some ys => rw [hd] at e; simp only [Option.map_some, Option.some.injEq] at e; subst e; rw [decInts_eq hd]; rfl
      · simp at e
    · simp at e
theorem decInts_map {k : IntKind} : ∀ (xs : List Int), decInts k (xs.map (.int k)) = some xs
  | [] => rfl
  | x :: xs => by simp [decInts, decInts_map xs]

/-- The numbers of a slice, read. -/
def rdInts (k : IntKind) (s : Value) : AP (List Int) := match s with
  | .slice none 0 0 => .pure []
  | .slice (some a) n _ => .get a.block fun
    | .cells c _ => match readCells c a.off n with
      | some l => AP.opt "" (decInts k l) .pure
      | none => .fail ""
    | _ => .fail ""
  | _ => .fail ""

/-- A program that only looks: how its run ends. -/
theorem rdInts_run {k : IntKind} {s : Value} {h : PT ABlk} {n : Nat} {xs : List Int} {s' : HS} (hR : ∀ i c ro, h.get i = some (.cells c ro) → ∃ L, c = .ofList .leaf 0 L) (e : (rdInts k s).run 0 (S0 h n) = .ok xs s') : s' = S0 h n ∧ IsInts k h s xs := by
  unfold rdInts at e
  split at e
  · simp only [AP.run, Res.ok.injEq] at e
    exact ⟨e.2.symm, .inl ⟨rfl, e.1.symm⟩⟩
  · rename_i a len cap
    simp only [AP.run, show (S0 h n).heap = h from rfl] at e
    cases hb : h.get a.block with
    | none => rw [hb] at e; simp at e
    | some B =>
      rw [hb] at e
      simp only [show Nat.blt a.block 0 = false from rfl, cond_false] at e
      cases B with
      | cells c ro =>
        obtain ⟨L, rfl⟩ := hR _ _ _ hb
        simp only [readCells_row] at e
        cases hc : (Nat.ble (a.off + len) L.length || Nat.beq len 0) with
        | false => rw [hc] at e; simp [AP.run] at e
        | true =>
          rw [hc] at e
          simp only [cond_true, AP.opt] at e
          cases hd : decInts k ((L.drop a.off).take len) with
          | none => rw [hd] at e; simp [AP.run] at e
          | some ys =>
            rw [hd] at e
            simp only [AP.run, Res.ok.injEq] at e
            obtain ⟨rfl, rfl⟩ := e
            have := decInts_eq hd
            have hlen : len = ys.length := by
              have h1 : ((L.drop a.off).take len).length = ys.length := by rw [this]; simp
              simp only [Bool.or_eq_true] at hc
              rcases hc with hc | hc
              · have := Nat.le_of_ble_eq_true hc
                simp at h1; omega
              · have := Nat.eq_of_beq_eq_true hc
                simp at h1; omega
            subst hlen
            exact ⟨rfl, .inr ⟨a.block, a.off, a.spot, cap, L, ro, rfl, hb, hc, this⟩⟩
      | _ => simp [AP.run] at e
  · simp [AP.run] at e

/-! reading numbers, worked out -/
@[go_sem] theorem rdInts_nil {k : IntKind} : rdInts k (.slice none 0 0) = .pure [] := rfl
def riB (k : IntKind) (off n : Nat) : ABlk → AP (List Int)
  | .cells c _ => match readCells c off n with
    | some l => AP.opt "" (decInts k l) .pure
    | none => .fail ""
  | _ => .fail ""
@[go_sem] theorem rdInts_slice {k : IntKind} {b off n c : Nat} {sp : Option Nat} : rdInts k (.slice (some ⟨b, off, sp⟩) n c) = .get b (riB k off n) := rfl
@[go_sem] theorem riB_row {k : IntKind} {off n : Nat} {L : List Value} {ro : Bool} : riB k off n (.cells (PT.ofList .leaf 0 L) ro) = cond (Nat.ble (off + n) L.length || Nat.beq n 0) (AP.opt "" (decInts k ((L.drop off).take n)) .pure) (.fail "") := by
  simp only [riB, readCells_row]
  cases (Nat.ble (off + n) L.length || Nat.beq n 0) <;> rfl
@[go_sem] theorem opt_some {α β : Type} {w : String} {a : α} {k : α → AP β} : AP.opt w (some a) k = k a := rfl
attribute [go_sem] decInts_map

end Go.Am
