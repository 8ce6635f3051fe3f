/-
  A part of the proof of the laws of layer 9: contracts of inner functions.
-/
import Derived.Test.YtakfjoelpploeaaL9S4
import Derived.Test.YtakfjoelpploeaaL9C
set_option linter.unusedVariables false
set_option linter.unusedSimpArgs false
namespace Go.Proofs.Ytakfjoelpploeaa
open Go.Am

/-- The words so far, in a row of the call's own; what lies below 'n3' is as it was. -/
structure GS (h3 : PT ABlk) (n3 lb : Nat) (h : PT ABlk) (n : Nat) (wv : Value) (W : List (Int × Int × Int)) : Prop where
  wf : WfH h n
  le : n3 ≤ n
  row : GrowCells 3 h wv (plcs W) W.length
  new : ∀ b k c, wv = .slice (some ⟨b, 0, none⟩) k c → n3 ≤ b
  same : ∀ i, i < n3 → i ≠ lb → h.get i = h3.get i

theorem GS.setlb {h3 h h' : PT ABlk} {n3 lb n : Nat} {wv : Value} {W : List (Int × Int × Int)} {B : Option ABlk} (g : GS h3 n3 lb h n wv W) (hlb : lb < n3) (e : h.set lb B = h') : GS h3 n3 lb h' n wv W := by
  subst e
  refine ⟨g.wf.set (Nat.le_refl _) (by have := g.le; omega), g.le, ?_, g.new, fun i hi hne => by rw [heap_ne (Ne.symm hne)]; exact g.same i hi hne⟩
  rcases g.row with r | ⟨b, e, hb, hl⟩
  · exact .inl r
  · have := g.new _ _ _ e
    exact .inr ⟨b, e, by rw [heap_ne (by omega)]; exact hb, hl⟩

theorem GS.len {h3 h : PT ABlk} {n3 lb n : Nat} {wv : Value} {W : List (Int × Int × Int)} (g : GS h3 n3 lb h n wv W) : ∃ a c, wv = .slice a W.length c := by
  rcases g.row with ⟨e, _, e2⟩ | ⟨b, e, _, _⟩
  · exact ⟨none, 0, by rw [e, e2]⟩
  · exact ⟨_, _, e⟩

theorem note_run {α : Type} : ∀ (p : AP α) (h : PT ABlk) (n : Nat) (rd wr : List Nat) (a : α) (s' : HS), p.note ⟨h, n, rd, wr⟩ = .ok a s' → p.run 0 (S0 h n) = .ok a (S0 s'.heap s'.next)
  | .pure a, h, n, rd, wr, b, s', e => by simp only [AP.note, Res.ok.injEq] at e; obtain ⟨rfl, rfl⟩ := e; rfl
  | .fail w, h, n, rd, wr, b, s', e => by simp [AP.note] at e
  | .get id k, h, n, rd, wr, b, s', e => by
    simp only [AP.note] at e
    simp only [AP.run, show (S0 h n).heap = h from rfl, show Nat.blt id 0 = false from rfl, cond_false]
    cases hb : h.get id with
    | none => rw [hb] at e; simp at e
    | some B => rw [hb] at e; exact note_run (k B) h n _ _ b s' e
  | .set id B k, h, n, rd, wr, b, s', e => by
    simp only [AP.note] at e
    simp only [AP.run, show (S0 h n).heap = h from rfl, show Nat.blt id 0 = false from rfl, cond_false]
    cases hb : h.get id with
    | none => rw [hb] at e; simp at e
    | some B' => rw [hb] at e; exact note_run k (h.set id (some B)) n _ _ b s' e
  | .kill id k, h, n, rd, wr, b, s', e => by
    simp only [AP.note] at e
    simp only [AP.run, show (S0 h n).heap = h from rfl, show Nat.blt id 0 = false from rfl, cond_false]
    cases hb : h.get id with
    | none => rw [hb] at e; simp at e
    | some B' => rw [hb] at e; exact note_run k (h.set id none) n _ _ b s' e
  | .new B k, h, n, rd, wr, b, s', e => by
    simp only [AP.note] at e
    exact note_run (k n) (h.set n (some B)) (n + 1) rd wr b s' e

theorem group_note {h3 : PT ABlk} {n3 lb : Nat} {S : List Value} {wv : Value} {W : List (Int × Int × Int)} {n p kind first : Int} {h : PT ABlk} {N : Nat} (g : GS h3 n3 lb h N wv W) (hlb : lb < n3) (hb : h.get lb = some (.cells (PT.ofList .leaf 0 S) false)) (hS : S.length = 28) (h27 : S[27]? = some wv)
    (hk : (W.length : Int) + n ≤ 1000000) (hn : 0 ≤ n) (hp : 1 ≤ p) (hp2 : p ≤ 1000000) (hf : 0 ≤ first) (hf2 : first ≤ 1000000) :
    ∃ m, groupS [.pointer (some ⟨lb, 0, none⟩), .int .i64 n, .int .u8 kind, .int .i64 first, .int .i64 p] = some m ∧ ∀ rd wr, ∃ v h' n' rd' wr', m.note ⟨h, N, rd, wr⟩ = .ok v ⟨h', n', rd', wr'⟩ ∧ v = .int .i64 W.length ∧
      ∃ wv', h'.get lb = some (.cells (PT.ofList .leaf 0 (S.set 27 wv')) false) ∧ GS h3 n3 lb h' n' wv' (W ++ grp kind first p.toNat n.toNat) ∧ ∀ i, i < n3 → i ≠ lb → h'.get i = h3.get i := by
  refine ⟨_, rfl, fun rd wr => ?_⟩
  have hle := g.le
  have hlbN : lb < N := by omega
  have hset := set_self h27
  have hc1 : (!false && Nat.beq S.length 28 && decide (0 ≤ n) && decide (1 ≤ p) && decide (p ≤ 1000000) && decide (0 ≤ first) && decide (first ≤ 1000000)) = true := by
    rw [hS, decide_eq_true hn, decide_eq_true hp, decide_eq_true hp2, decide_eq_true hf, decide_eq_true hf2]; rfl
  rcases g.row with ⟨rfl, hW, hW0⟩ | ⟨b, rfl, hbB, hbl⟩
  · obtain rfl : W = [] := List.eq_nil_of_length_eq_zero hW0
    have hk2 : n ≤ 1000000 := by simpa using hk
    by_cases hz : n = 0
    · subst hz
      refine ⟨_, h, N, lb :: rd, wr, ?_, rfl, .slice none 0 0, by rw [hset]; exact hb, ?_, g.same⟩
      · simp only [AP.row, AP.note, hb, rowB_row, hc1, cond_true, h27]
        rfl
      · exact ⟨g.wf, g.le, .inl ⟨rfl, rfl, rfl⟩, g.new, g.same⟩
    · refine ⟨_, (h.set N (some (.cells (PT.ofList .leaf 0 (plcs (grp kind first p.toNat n.toNat))) false))).set lb (some (.cells (PT.ofList .leaf 0 (S.set 27 (.slice (some ⟨N, 0, none⟩) n.toNat (capInf + 3)))) false)), N + 1, lb :: rd, lb :: wr, ?_, rfl, .slice (some ⟨N, 0, none⟩) n.toNat (capInf + 3), heap_same, ?_, ?_⟩
      · simp only [AP.row, AP.note, hb, rowB_row, hc1, cond_true, h27, decide_eq_true hk2, decide_eq_false hz, cond_false, AP.newRow, AP.setRow, heap_ne (show N ≠ lb by omega)]
        rfl
      · refine ⟨(g.wf.set (Nat.le_succ _) (Nat.lt_succ_self _)).set (Nat.le_refl _) (by omega), by omega, .inr ⟨N, ?_, ?_, ?_⟩, fun b k c e => by cases e; omega, fun i hi hne => by rw [heap_ne (Ne.symm hne), heap_ne (by omega)]; exact g.same i hi hne⟩
        · rw [List.nil_append, grp_length]
        · rw [heap_ne (by omega), heap_same, List.nil_append]
        · rw [plcs_length]
      · exact fun i hi hne => by rw [heap_ne (Ne.symm hne), heap_ne (by omega)]; exact g.same i hi hne
  · have hbn := g.new b _ _ rfl
    have hbN := g.wf.lt hbB
    have hc2 : (!false && Nat.beq (capInf + 3) (capInf + 3) && Nat.beq (plcs W).length (W.length * 3) && decide ((W.length : Int) + n ≤ 1000000) && !Nat.beq b lb) = true := by
      rw [hbl, decide_eq_true hk, Nat.beq_refl, Nat.beq_refl, beq_ne (show b ≠ lb by omega)]; rfl
    by_cases hz : n = 0
    · subst hz
      refine ⟨_, h, N, b :: lb :: rd, wr, ?_, rfl, .slice (some ⟨b, 0, none⟩) W.length (capInf + 3), by rw [hset]; exact hb, ?_, g.same⟩
      · simp only [AP.row, AP.note, hb, rowB_row, hc1, cond_true, h27, hbB, hc2]
        rfl
      · exact ⟨g.wf, g.le, by rw [show grp kind first p.toNat (0 : Int).toNat = [] from rfl, List.append_nil]; exact .inr ⟨b, rfl, hbB, hbl⟩, g.new, g.same⟩
    · refine ⟨_, ((h.set b none).set N (some (.cells (PT.ofList .leaf 0 (plcs W ++ plcs (grp kind first p.toNat n.toNat))) false))).set lb (some (.cells (PT.ofList .leaf 0 (S.set 27 (.slice (some ⟨N, 0, none⟩) (W.length + n.toNat) (capInf + 3)))) false)), N + 1, b :: lb :: rd, lb :: b :: wr, ?_, rfl, .slice (some ⟨N, 0, none⟩) (W.length + n.toNat) (capInf + 3), heap_same, ?_, ?_⟩
      · simp only [AP.row, AP.note, hb, rowB_row, hc1, cond_true, h27, hbB, hc2, decide_eq_false hz, cond_false, AP.newRow, AP.setRow, heap_ne (show N ≠ lb by omega), heap_ne (show b ≠ lb by omega)]
      · refine ⟨((g.wf.set (Nat.le_refl _) hbN).set (Nat.le_succ _) (Nat.lt_succ_self _)).set (Nat.le_refl _) (by omega), by omega, .inr ⟨N, ?_, ?_, ?_⟩, fun b k c e => by cases e; omega, fun i hi hne => by rw [heap_ne (Ne.symm hne), heap_ne (by omega), heap_ne (by omega)]; exact g.same i hi hne⟩
        · rw [List.length_append, grp_length]
        · rw [heap_ne (by omega), heap_same, plcs_append]
        · rw [plcs_length]
      · exact fun i hi hne => by rw [heap_ne (Ne.symm hne), heap_ne (by omega), heap_ne (by omega)]; exact g.same i hi hne

theorem EvQ_via {z : Zx} {s : Option (AP Value)} {f : FuncId} {args : List Value} {d : Option Nat} {ops r : List Oper} {K : List KF} {m : Tm} {h : PT ABlk} {n : Nat} {I : Value → PT ABlk → Nat → Prop}
    (H : ∃ q, s = some q ∧ ∀ rd wr, ∃ v h' n' rd' wr', q.note ⟨h, n, rd, wr⟩ = .ok v ⟨h', n', rd', wr'⟩ ∧ I v h' n') (hk : ∀ v h' n', I v h' n' → EvV z (.pure (.value v)) d ops r K m h' n') : EvQ z s f args d ops r K m h n := by
  obtain ⟨q, rfl, H⟩ := H
  obtain ⟨v, h', n', rd', wr', e, hi⟩ := H [] []
  exact EvQ_some.2 (EvV_via I ⟨v, h', n', note_run q h n [] [] v _ e, hi⟩ hk)
theorem EvXQ_via {z : Zx} {L : List (Nat × Nat)} {s : Option (AP Value)} {f : FuncId} {args : List Value} {d : Option Nat} {ops r : List Oper} {K : List KF} {m : Tm} {h : PT ABlk} {n lo : Nat} {rd wr : List Nat} {fs : List Foot} {I : Value → PT ABlk → Nat → Prop}
    (H : ∃ q, s = some q ∧ ∀ rd wr, ∃ v h' n' rd' wr', q.note ⟨h, n, rd, wr⟩ = .ok v ⟨h', n', rd', wr'⟩ ∧ I v h' n') (hk : ∀ v h' n' rd' wr', I v h' n' → EvX z L (.pure (.value v)) d ops r K m h' n' lo rd' wr' fs) : EvXQ z L s f args d ops r K m h n lo rd wr fs := by
  obtain ⟨q, rfl, H⟩ := H
  obtain ⟨v, h', n', rd', wr', e, hi⟩ := H rd wr
  have := hk v h' n' rd' wr' hi
  unfold EvXQ
  simp only
  unfold EvX at this ⊢
  rw [note_bind, e, bnd_ok_eq]
  exact this
end Go.Proofs.Ytakfjoelpploeaa
