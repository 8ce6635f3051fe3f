/-
  A part of the proof: contracts of inner functions.
-/
import Derived.Test.YthhohpbghfbkbaaE2Y
set_option linter.unusedVariables false
set_option linter.unusedSimpArgs false
namespace Go.Proofs.Ythhohpbghfbkbaa
open Go.Am

def decEvs : List Value → Option (List Ev)
  | [] => some []
  | .int .i64 a :: .int .i64 b :: .int .u8 c :: .int .u64 d :: r => (decEvs r).map ((a, b, c, d) :: ·)
  | _ => none
theorem decEvs_ev : ∀ W : List Ev, decEvs (evCs W) = some W
  | [] => rfl
  | (a, b, c, d) :: W => by
    have := decEvs_ev W
    simp only [evCs, List.flatMap_cons, evC, List.cons_append, List.nil_append, decEvs] at this ⊢
    rw [this]; rfl
theorem decEvs_eq (L : List Value) : ∀ (W : List Ev), decEvs L = some W → L = evCs W := by
  induction L using decEvs.induct with
  | case1 => intro W h; simp only [decEvs, Option.some.injEq] at h; subst h; rfl
  | case2 a b c d r ih =>
    intro W h
    simp only [decEvs, Option.map_eq_some_iff] at h
    obtain ⟨V, hV, rfl⟩ := h
    rw [ih V hV]; rfl
  | case3 L h1 h2 =>
    intro W h
    rw [decEvs] at h
    · simp at h
    · exact h1
    · exact h2
/-- Look at a row, and answer. -/
noncomputable def getP (b : Nat) (g : List Value → Option Value) : AP Value := AP.row b fun L _ => match g L with
  | some v => .pure v
  | none => .fail ""
theorem getP_reads (b : Nat) (g : List Value → Option Value) : Reads (getP b g) := row_reads fun L ro => by
  split
  · exact .pure _
  · exact .fail _
theorem getP_look {b : Nat} {g : List Value → Option Value} {h : PT ABlk} {v : Value} (e : (getP b g).look h = some v) : ∃ L ro, h.get b = some (.cells (PT.ofList .leaf 0 L) ro) ∧ g L = some v := by
  obtain ⟨L, ro, hb, e⟩ := look_row e
  cases hg : g L with
  | none => rw [hg] at e; simp [AP.look] at e
  | some w => rw [hg, look_pure] at e; obtain rfl := Option.some.inj e; exact ⟨L, ro, hb, hg⟩
def endsG (n : Nat) (i : Int) (L : List Value) : Option Value := match decEvs L with
  | some E => if n = E.length ∧ n ≤ 100000 ∧ 0 ≤ i ∧ i < E.length then some (.int .i64 (nxt (E.getD i.toNat (0, 0, 0, 0)).2.1 (E.drop (i.toNat + 1)))) else none
  | none => none
noncomputable def endsS : List Value → Option (AP Value)
  | [.slice (some ⟨b, 0, none⟩) n _, .int .i64 i] => some (getP b (endsG n i))
  | _ => none
theorem endsS_eq {b n c : Nat} {i : Int} : endsS [.slice (some ⟨b, 0, none⟩) n c, .int .i64 i] = some (getP b (endsG n i)) := rfl
theorem endsG_eq {E : List Ev} {i : Nat} (hi : i < E.length) (hn : E.length ≤ 100000) : endsG E.length i (evCs E) = some (.int .i64 (nxt E[i].2.1 (E.drop (i + 1)))) := by
  unfold endsG
  rw [decEvs_ev]
  simp only
  rw [if_pos ⟨trivial, hn, by omega, by omega⟩]
  simp [List.getD, hi]
theorem endsF : SoundF Try.prog 54 endsS := by
  refine soundF_look (tab_sound .nil) orders ?_ ?_ ?_
  · intro args m hm
    unfold endsS at hm
    split at hm
    · obtain rfl := Option.some.inj hm; exact getP_reads _ _
    · simp at hm
  · intro args m h v hm e
    unfold endsS at hm
    split at hm
    · obtain rfl := Option.some.inj hm
      obtain ⟨L, ro, hb, hg⟩ := getP_look e
      unfold endsG at hg
      split at hg
      · split at hg
        · obtain rfl := Option.some.inj hg; exact .int _ _
        · simp at hg
      · simp at hg
    · simp at hm
  · intro args m h N v hm hR hlt e
    unfold endsS at hm
    split at hm
    · rename_i b n c i
      obtain rfl := Option.some.inj hm
      obtain ⟨L, ro, hb, hg⟩ := getP_look e
      unfold endsG at hg
      split at hg
      · rename_i E hE
        split at hg
        · rename_i hc
          obtain ⟨rfl, h1, h2, h3⟩ := hc
          obtain rfl := Option.some.inj hg
          rw [decEvs_eq _ _ hE] at hb
          obtain ⟨j, rfl⟩ : ∃ j : Nat, i = j := ⟨i.toNat, by omega⟩
          have hj : j < E.length := by omega
          refine (endsB E b c j ro hj h1 h N (WfH.of_lt hlt) hb).mono ?_
          rintro v2 h2 n2 ⟨rfl, rfl, rfl⟩
          refine ⟨by simp [List.getD, hj], fun i _ => rfl⟩
        · simp at hg
      · simp at hg
    · simp at hm

/-- The end of a section. -/
def endG (off : Nat) (st : Int) (L : List Value) : Option (List Value × Value) := if off + 3 < L.length then some (L.set (off + 3) (.int .i64 st), .tuple ⟨[]⟩) else none
noncomputable def endS : List Value → Option (AP Value)
  | [.pointer (some ⟨b, off, none⟩), .int .i64 st] => some (setP b (endG off st))
  | _ => none
theorem endS_eq {b off : Nat} {st : Int} : endS [.pointer (some ⟨b, off, none⟩), .int .i64 st] = some (setP b (endG off st)) := rfl
theorem endX {F : FuncId} (H : ∀ (b off : Nat) (st : Int) (L : List Value) (h : PT ABlk) (N : Nat), WfH h N → h.get b = some (.cells (PT.ofList .leaf 0 L) false) → off + 3 < L.length →
    EvB Try.prog (tabO []) F [.pointer (some ⟨b, off, none⟩), .int .i64 st] h N fun v2 h2 n2 => v2 = .tuple ⟨[]⟩ ∧ h2.get b = some (.cells (PT.ofList .leaf 0 (L.set (off + 3) (.int .i64 st))) false) ∧ ∀ i, i < N → i ≠ b → h2.get i = h.get i) : SoundF Try.prog F endS := by
  refine soundF_set (tab_sound .nil) orders ?_
  intro args m hm
  unfold endS at hm
  split at hm
  · rename_i b off st
    obtain rfl := Option.some.inj hm
    refine ⟨b, _, rfl, fun L L' v hg => ?_, fun h N L L' v hlt hb hg => ?_⟩
    · unfold endG at hg
      split at hg
      · obtain ⟨rfl, rfl⟩ := Prod.mk.inj (Option.some.inj hg)
        refine ⟨.tuple _ (by simp), fun u hu => ?_⟩
        rcases List.mem_or_eq_of_mem_set hu with q | q
        · exact .inl q
        · subst q; exact .inr (.int _ _)
      · simp at hg
    · unfold endG at hg
      split at hg
      · rename_i ho
        obtain ⟨rfl, rfl⟩ := Prod.mk.inj (Option.some.inj hg)
        exact H b off st L h N (WfH.of_lt hlt) hb ho
      · simp at hg
  · simp at hm
theorem endW : SoundF Try.prog 52 endS := by
  refine endX ?_
  intro b off st L h N hW hb ho
  have hbN := hW.lt hb
  refine EvB_run (N := 8) Try.func52 rfl rfl fun z hP hO hro hN hQ => ?_
  repeat' first | simp (config := { maxSteps := 2000000 }) (disch := omega) only [go_sem, *, Try.results52] | (first | apply EvG_ndec | apply EvC_ndec | apply EvG_dec | apply EvC_dec | apply EvC_nbool | apply EvC_bool | apply EvG_nbool | apply EvG_bool) <;> intro _
  exact ⟨rfl, fun i h1 h2 => by simp (disch := omega) only [heap_ne]⟩
theorem endE : SoundF Try.prog 49 endS := by
  refine endX ?_
  intro b off st L h N hW hb ho
  have hbN := hW.lt hb
  refine EvB_run (N := 8) Try.func49 rfl rfl fun z hP hO hro hN hQ => ?_
  repeat' first | simp (config := { maxSteps := 2000000 }) (disch := omega) only [go_sem, *, Try.results49] | (first | apply EvG_ndec | apply EvC_ndec | apply EvG_dec | apply EvC_dec | apply EvC_nbool | apply EvC_bool | apply EvG_nbool | apply EvG_bool) <;> intro _
  exact ⟨rfl, fun i h1 h2 => by simp (disch := omega) only [heap_ne]⟩
end Go.Proofs.Ythhohpbghfbkbaa

set_option linter.unusedVariables false
set_option linter.unusedSimpArgs false
namespace Go.Proofs.Ythhohpbghfbkbaa
open Go.Am

/-- What Sections and Waits answer. -/
def SecsV (bg : Int) (E : List Ev) (v : Value) (h : PT ABlk) : Prop := (chk E = false ∧ v = .tuple ⟨[.slice none 0 0, .int .i64 15]⟩) ∨ (chk E = true ∧ ∃ sl, v = .tuple ⟨[sl, .int .i64 0]⟩ ∧ IsSecs h sl (refS bg E))
def OwnSecs (N : Nat) (h : PT ABlk) (s : Value) (E : List Sec) : Prop := (s = .slice none 0 0 ∧ E = []) ∨ ∃ b, N ≤ b ∧ s = .slice (some ⟨b, 0, none⟩) E.length (capInf + 4) ∧ h.get b = some (.cells (PT.ofList .leaf 0 (secCs E)) false)
theorem OwnSecs.is {N : Nat} {h : PT ABlk} {s : Value} {E : List Sec} (H : OwnSecs N h s E) : IsSecs h s E := by
  rcases H with H | ⟨b, _, e, q⟩
  · exact .inl H
  · exact .inr ⟨b, e, q⟩
theorem refS_take {bg : Int} {E : List Ev} {j : Nat} (hj : j < E.length) : refS bg (E.drop j) = if E[j].2.2.1 = bg then (E[j].2.1, E[j].2.2.2, E[j].1, nxt E[j].2.1 (E.drop (j + 1))) :: refS bg (E.drop (j + 1)) else refS bg (E.drop (j + 1)) := by
  rw [List.drop_eq_getElem_cons hj, refS]
set_option maxRecDepth 100000 in
set_option maxHeartbeats 2000000 in
theorem refWaits {O : Over} (o55 : O 53 = fun _ => none) (o61 : O 59 = fun _ => none) (o56 : O 54 = endsS) (E : List Ev) (s : Value) (hn : E.length ≤ 100000) (h : PT ABlk) (N : Nat) (hW : WfH h N) (hs : IsEvs h s E) :
    EvB Try.prog O 41 [s] h N fun v h' n' => SecsV 3 E v h' ∧ Kept h h' := by
  obtain ⟨ba, bc, rfl, hrow⟩ := hs.len
  unfold SecsV
  refine EvB_run (N := 51) Try.func41 rfl rfl fun z hP hO hro hN hQ => ?_
  repeat' first | simp (config := { maxSteps := 2000000 }) (disch := omega) only [go_sem, *, Try.results41] | (first | apply EvG_ndec | apply EvC_ndec | apply EvG_dec | apply EvC_dec | apply EvC_nbool | apply EvC_bool | apply EvG_nbool | apply EvG_bool) <;> intro _ | (first | apply EvH_ndec | apply EvH_dec | apply EvH_nbool | apply EvH_bool) <;> intro _ | refine EvK_draw (id := 9) (L := [(0, 1), (0, 2), (1, 2), (0, 3), (0, 4), (0, 5), (0, 6), (1, 6), (2, 6), (3, 6), (4, 6), (5, 6), (0, 7), (1, 7), (2, 7), (3, 7), (4, 7), (5, 7), (6, 7), (0, 8), (1, 8), (2, 8), (3, 8), (4, 8), (5, 8), (0, 9), (1, 9), (2, 9), (3, 9), (4, 9), (5, 9), (0, 10), (1, 10), (2, 10), (3, 10), (4, 10), (5, 10), (0, 11), (1, 11), (2, 11), (3, 11), (4, 11), (5, 11), (6, 11), (7, 11), (8, 11), (9, 11), (10, 11), (0, 12), (1, 12), (2, 12), (3, 12), (4, 12), (5, 12), (6, 12), (7, 12), (8, 12), (9, 12), (10, 12), (11, 12), (0, 13), (1, 13), (2, 13), (3, 13), (4, 13), (5, 13), (6, 13), (7, 13), (8, 13), (9, 13), (10, 13), (0, 14), (1, 14), (2, 14), (3, 14), (4, 14), (5, 14), (6, 14), (7, 14), (8, 14), (9, 14), (10, 14), (0, 15), (1, 15), (2, 15), (3, 15), (4, 15), (5, 15), (6, 15), (7, 15), (8, 15), (9, 15), (10, 15), (0, 16), (1, 16), (2, 16), (3, 16), (4, 16), (5, 16), (6, 16), (7, 16), (8, 16), (9, 16), (10, 16), (11, 16), (12, 16), (13, 16), (14, 16), (15, 16), (0, 17), (1, 17), (2, 17), (3, 17), (4, 17), (5, 17), (6, 17), (7, 17), (8, 17), (9, 17), (10, 17), (11, 17), (12, 17), (13, 17), (14, 17), (15, 17), (16, 17), (0, 18), (1, 18), (2, 18), (3, 18), (4, 18), (5, 18), (6, 18), (7, 18), (8, 18), (9, 18), (10, 18), (11, 18), (12, 18), (13, 18), (14, 18), (15, 18), (0, 19), (0, 20)]) (by kernel_rfl) (by kernel_rfl) ?_
  refine EvQ_call ?_ ?_ (by rw [hP, hO]; exact (refCheckB o61 E _ hn _ _ hW hs).wf hW) ?_
  · simp (config := { maxSteps := 2000000 }) (disch := omega) only [go_sem, *]
  · simp (config := { maxSteps := 2000000 }) (disch := omega) only [go_sem, *]
  rintro v h2 n2 ⟨⟨hv, k2⟩, hn2, hW2⟩
  rcases hv with ⟨hc, k, rfl⟩ | ⟨hc, rfl⟩
  · rw [hc] at hQ
    clear hrow
    repeat' first | simp (config := { maxSteps := 2000000 }) (disch := omega) only [go_sem, *, Try.results41] | (first | apply EvG_ndec | apply EvC_ndec | apply EvG_dec | apply EvC_dec | apply EvC_nbool | apply EvC_bool | apply EvG_nbool | apply EvG_bool) <;> intro _ | (first | apply EvH_ndec | apply EvH_dec | apply EvH_nbool | apply EvH_bool) <;> intro _ | refine EvK_draw (id := 9) (L := [(0, 1), (0, 2), (1, 2), (0, 3), (0, 4), (0, 5), (0, 6), (1, 6), (2, 6), (3, 6), (4, 6), (5, 6), (0, 7), (1, 7), (2, 7), (3, 7), (4, 7), (5, 7), (6, 7), (0, 8), (1, 8), (2, 8), (3, 8), (4, 8), (5, 8), (0, 9), (1, 9), (2, 9), (3, 9), (4, 9), (5, 9), (0, 10), (1, 10), (2, 10), (3, 10), (4, 10), (5, 10), (0, 11), (1, 11), (2, 11), (3, 11), (4, 11), (5, 11), (6, 11), (7, 11), (8, 11), (9, 11), (10, 11), (0, 12), (1, 12), (2, 12), (3, 12), (4, 12), (5, 12), (6, 12), (7, 12), (8, 12), (9, 12), (10, 12), (11, 12), (0, 13), (1, 13), (2, 13), (3, 13), (4, 13), (5, 13), (6, 13), (7, 13), (8, 13), (9, 13), (10, 13), (0, 14), (1, 14), (2, 14), (3, 14), (4, 14), (5, 14), (6, 14), (7, 14), (8, 14), (9, 14), (10, 14), (0, 15), (1, 15), (2, 15), (3, 15), (4, 15), (5, 15), (6, 15), (7, 15), (8, 15), (9, 15), (10, 15), (0, 16), (1, 16), (2, 16), (3, 16), (4, 16), (5, 16), (6, 16), (7, 16), (8, 16), (9, 16), (10, 16), (11, 16), (12, 16), (13, 16), (14, 16), (15, 16), (0, 17), (1, 17), (2, 17), (3, 17), (4, 17), (5, 17), (6, 17), (7, 17), (8, 17), (9, 17), (10, 17), (11, 17), (12, 17), (13, 17), (14, 17), (15, 17), (16, 17), (0, 18), (1, 18), (2, 18), (3, 18), (4, 18), (5, 18), (6, 18), (7, 18), (8, 18), (9, 18), (10, 18), (11, 18), (12, 18), (13, 18), (14, 18), (15, 18), (0, 19), (0, 20)]) (by kernel_rfl) (by kernel_rfl) ?_
  · rw [hc] at hQ
    repeat' first | simp (config := { maxSteps := 2000000 }) (disch := omega) only [go_sem, *, Try.results41] | (first | apply EvG_ndec | apply EvC_ndec | apply EvG_dec | apply EvC_dec | apply EvC_nbool | apply EvC_bool | apply EvG_nbool | apply EvG_bool) <;> intro _ | (first | apply EvH_ndec | apply EvH_dec | apply EvH_nbool | apply EvH_bool) <;> intro _ | refine EvK_draw (id := 9) (L := [(0, 1), (0, 2), (1, 2), (0, 3), (0, 4), (0, 5), (0, 6), (1, 6), (2, 6), (3, 6), (4, 6), (5, 6), (0, 7), (1, 7), (2, 7), (3, 7), (4, 7), (5, 7), (6, 7), (0, 8), (1, 8), (2, 8), (3, 8), (4, 8), (5, 8), (0, 9), (1, 9), (2, 9), (3, 9), (4, 9), (5, 9), (0, 10), (1, 10), (2, 10), (3, 10), (4, 10), (5, 10), (0, 11), (1, 11), (2, 11), (3, 11), (4, 11), (5, 11), (6, 11), (7, 11), (8, 11), (9, 11), (10, 11), (0, 12), (1, 12), (2, 12), (3, 12), (4, 12), (5, 12), (6, 12), (7, 12), (8, 12), (9, 12), (10, 12), (11, 12), (0, 13), (1, 13), (2, 13), (3, 13), (4, 13), (5, 13), (6, 13), (7, 13), (8, 13), (9, 13), (10, 13), (0, 14), (1, 14), (2, 14), (3, 14), (4, 14), (5, 14), (6, 14), (7, 14), (8, 14), (9, 14), (10, 14), (0, 15), (1, 15), (2, 15), (3, 15), (4, 15), (5, 15), (6, 15), (7, 15), (8, 15), (9, 15), (10, 15), (0, 16), (1, 16), (2, 16), (3, 16), (4, 16), (5, 16), (6, 16), (7, 16), (8, 16), (9, 16), (10, 16), (11, 16), (12, 16), (13, 16), (14, 16), (15, 16), (0, 17), (1, 17), (2, 17), (3, 17), (4, 17), (5, 17), (6, 17), (7, 17), (8, 17), (9, 17), (10, 17), (11, 17), (12, 17), (13, 17), (14, 17), (15, 17), (16, 17), (0, 18), (1, 18), (2, 18), (3, 18), (4, 18), (5, 18), (6, 18), (7, 18), (8, 18), (9, 18), (10, 18), (11, 18), (12, 18), (13, 18), (14, 18), (15, 18), (0, 19), (0, 20)]) (by kernel_rfl) (by kernel_rfl) ?_
    refine ind_loop (fun t m h' n' => ∃ (j : Nat) (sl : Value) (S : List Sec), j ≤ E.length ∧ t = E.length - j ∧ m.n = 51 ∧ m.dfs = [] ∧ m.get 0 = .slice ba E.length bc ∧ m.get 6 = sl ∧ m.get 7 = .int .i64 j ∧ WfH h' n' ∧ N ≤ n' ∧ Kept h h' ∧ OwnSecs N h' sl S ∧ S.length ≤ j ∧ S ++ refS 3 (E.drop j) = refS 3 E) E.length ?_ ?_
    · refine ⟨0, .slice none 0 0, [], by omega, by omega, ?_⟩
      simp (config := { maxSteps := 2000000 }) (disch := omega) only [go_sem, *]
      exact .inl ⟨rfl, rfl⟩
    · rintro t m h' n' ih ⟨j, sl, S, hj, rfl, m1, m2, m3, m4, m5, q1, q2, q3, q4, q5, q6⟩
      rcases Nat.lt_or_ge j E.length with hlt | hge
      · have e7 : (j : Int) < E.length := by omega
        rw [refS_take hlt] at q6
        obtain ⟨b, rfl, hb0⟩ := hrow j hlt
        have hb := q3 _ _ hb0
        have hbN := hW.lt hb0
        have hpl : (evCs E).length = E.length * 4 := evCs_length E
        have c0 := evCs_cell (j := 0) hlt (by omega)
        have c1 := evCs_cell (j := 1) hlt (by omega)
        have c2 := evCs_cell (j := 2) hlt (by omega)
        have c3 := evCs_cell (j := 3) hlt (by omega)
        have hg := endsG_eq hlt hn
        have hci : ((j + 1 : Nat) : Int) = (j : Int) + 1 := by omega
        obtain ⟨⟨st, th, kd, val⟩, hx⟩ : ∃ x, E[j] = x := ⟨_, rfl⟩
        rw [hx] at c0 c1 c2 c3 hg q6
        simp only [evC, List.getElem?_cons_zero, List.getElem?_cons_succ, Nat.add_zero] at c0 c1 c2 c3
        simp only at hg q6
        clear hQ hrow hb0 hx hs hc k2 hW2 hn2
        by_cases hk : kd = 3
        · subst hk
          rw [if_pos rfl] at q6
          generalize nxt th (E.drop (j + 1)) = e at hg q6
          have hS4 : (secCs S).length = S.length * 4 := secCs_length S
          rcases q4 with ⟨rfl, rfl⟩ | ⟨g, hgN, rfl, hgr⟩
          · clear q5 hS4
            repeat' first | simp (config := { maxSteps := 2000000 }) (disch := omega) only [go_sem, *, Try.results41, endsS_eq, getP] | (first | apply EvG_ndec | apply EvC_ndec | apply EvG_dec | apply EvC_dec | apply EvC_nbool | apply EvC_bool | apply EvG_nbool | apply EvG_bool) <;> intro _ | (first | apply EvH_ndec | apply EvH_dec | apply EvH_nbool | apply EvH_bool) <;> intro _ | refine EvK_draw (id := 9) (L := [(0, 1), (0, 2), (1, 2), (0, 3), (0, 4), (0, 5), (0, 6), (1, 6), (2, 6), (3, 6), (4, 6), (5, 6), (0, 7), (1, 7), (2, 7), (3, 7), (4, 7), (5, 7), (6, 7), (0, 8), (1, 8), (2, 8), (3, 8), (4, 8), (5, 8), (0, 9), (1, 9), (2, 9), (3, 9), (4, 9), (5, 9), (0, 10), (1, 10), (2, 10), (3, 10), (4, 10), (5, 10), (0, 11), (1, 11), (2, 11), (3, 11), (4, 11), (5, 11), (6, 11), (7, 11), (8, 11), (9, 11), (10, 11), (0, 12), (1, 12), (2, 12), (3, 12), (4, 12), (5, 12), (6, 12), (7, 12), (8, 12), (9, 12), (10, 12), (11, 12), (0, 13), (1, 13), (2, 13), (3, 13), (4, 13), (5, 13), (6, 13), (7, 13), (8, 13), (9, 13), (10, 13), (0, 14), (1, 14), (2, 14), (3, 14), (4, 14), (5, 14), (6, 14), (7, 14), (8, 14), (9, 14), (10, 14), (0, 15), (1, 15), (2, 15), (3, 15), (4, 15), (5, 15), (6, 15), (7, 15), (8, 15), (9, 15), (10, 15), (0, 16), (1, 16), (2, 16), (3, 16), (4, 16), (5, 16), (6, 16), (7, 16), (8, 16), (9, 16), (10, 16), (11, 16), (12, 16), (13, 16), (14, 16), (15, 16), (0, 17), (1, 17), (2, 17), (3, 17), (4, 17), (5, 17), (6, 17), (7, 17), (8, 17), (9, 17), (10, 17), (11, 17), (12, 17), (13, 17), (14, 17), (15, 17), (16, 17), (0, 18), (1, 18), (2, 18), (3, 18), (4, 18), (5, 18), (6, 18), (7, 18), (8, 18), (9, 18), (10, 18), (11, 18), (12, 18), (13, 18), (14, 18), (15, 18), (0, 19), (0, 20)]) (by kernel_rfl) (by kernel_rfl) ?_
            refine ih (E.length - (j + 1)) _ _ _ (by omega) ⟨j + 1, .slice (some ⟨n' + 1, 0, none⟩) 1 (capInf + 4), [(th, val, st, e)], by omega, rfl, ?_⟩
            rw [hci]
            clear ih
            simp (config := { maxSteps := 2000000 }) (disch := omega) only [go_sem, *]
            refine ⟨WfH.set' (by omega) (q1.set (by omega) (by omega)), by omega, Kept.set' hW (by omega) (Kept.set' hW (by omega) q3), .inr ⟨n' + 1, by omega, rfl, heap_same⟩, q6⟩
          · have hgn := q1.lt hgr
            have htk : (secCs S).take (S.length * 4) = secCs S := by rw [← hS4]; exact List.take_length
            have hbq : (S.length * 4).beq (S.length * 4) = true := Nat.beq_refl _
            have hble : (S.length + 1).ble 1048576 = true := Nat.ble_eq_true_of_le (by omega)
            have hsn : secCs S ++ [.int .i64 th, .int .u64 val, .int .i64 st, .int .i64 e] = secCs (S ++ [(th, val, st, e)]) := (secCs_snoc S (th, val, st, e)).symm
            repeat' first | simp (config := { maxSteps := 2000000 }) (disch := omega) only [go_sem, *, Try.results41, endsS_eq, getP] | (first | apply EvG_ndec | apply EvC_ndec | apply EvG_dec | apply EvC_dec | apply EvC_nbool | apply EvC_bool | apply EvG_nbool | apply EvG_bool) <;> intro _ | (first | apply EvH_ndec | apply EvH_dec | apply EvH_nbool | apply EvH_bool) <;> intro _ | refine EvK_draw (id := 9) (L := [(0, 1), (0, 2), (1, 2), (0, 3), (0, 4), (0, 5), (0, 6), (1, 6), (2, 6), (3, 6), (4, 6), (5, 6), (0, 7), (1, 7), (2, 7), (3, 7), (4, 7), (5, 7), (6, 7), (0, 8), (1, 8), (2, 8), (3, 8), (4, 8), (5, 8), (0, 9), (1, 9), (2, 9), (3, 9), (4, 9), (5, 9), (0, 10), (1, 10), (2, 10), (3, 10), (4, 10), (5, 10), (0, 11), (1, 11), (2, 11), (3, 11), (4, 11), (5, 11), (6, 11), (7, 11), (8, 11), (9, 11), (10, 11), (0, 12), (1, 12), (2, 12), (3, 12), (4, 12), (5, 12), (6, 12), (7, 12), (8, 12), (9, 12), (10, 12), (11, 12), (0, 13), (1, 13), (2, 13), (3, 13), (4, 13), (5, 13), (6, 13), (7, 13), (8, 13), (9, 13), (10, 13), (0, 14), (1, 14), (2, 14), (3, 14), (4, 14), (5, 14), (6, 14), (7, 14), (8, 14), (9, 14), (10, 14), (0, 15), (1, 15), (2, 15), (3, 15), (4, 15), (5, 15), (6, 15), (7, 15), (8, 15), (9, 15), (10, 15), (0, 16), (1, 16), (2, 16), (3, 16), (4, 16), (5, 16), (6, 16), (7, 16), (8, 16), (9, 16), (10, 16), (11, 16), (12, 16), (13, 16), (14, 16), (15, 16), (0, 17), (1, 17), (2, 17), (3, 17), (4, 17), (5, 17), (6, 17), (7, 17), (8, 17), (9, 17), (10, 17), (11, 17), (12, 17), (13, 17), (14, 17), (15, 17), (16, 17), (0, 18), (1, 18), (2, 18), (3, 18), (4, 18), (5, 18), (6, 18), (7, 18), (8, 18), (9, 18), (10, 18), (11, 18), (12, 18), (13, 18), (14, 18), (15, 18), (0, 19), (0, 20)]) (by kernel_rfl) (by kernel_rfl) ?_
            refine ih (E.length - (j + 1)) _ _ _ (by omega) ⟨j + 1, .slice (some ⟨n' + 1, 0, none⟩) (S.length + 1) (capInf + 4), S ++ [(th, val, st, e)], by omega, rfl, ?_⟩
            rw [hci]
            clear ih
            simp (config := { maxSteps := 2000000 }) (disch := omega) only [go_sem, *]
            exact ⟨WfH.set' (by omega) (WfH.set' (by omega) (q1.set (by omega) (by omega))), by omega, Kept.set' hW (by omega) (Kept.set' hW (by omega) (Kept.set' hW (by omega) q3)), .inr ⟨n' + 1, by omega, by rw [List.length_append]; rfl, heap_same⟩⟩
        · rw [if_neg hk] at q6
          repeat' first | simp (config := { maxSteps := 2000000 }) (disch := omega) only [go_sem, *, Try.results41] | (first | apply EvG_ndec | apply EvC_ndec | apply EvG_dec | apply EvC_dec | apply EvC_nbool | apply EvC_bool | apply EvG_nbool | apply EvG_bool) <;> intro _ | (first | apply EvH_ndec | apply EvH_dec | apply EvH_nbool | apply EvH_bool) <;> intro _ | refine EvK_draw (id := 9) (L := [(0, 1), (0, 2), (1, 2), (0, 3), (0, 4), (0, 5), (0, 6), (1, 6), (2, 6), (3, 6), (4, 6), (5, 6), (0, 7), (1, 7), (2, 7), (3, 7), (4, 7), (5, 7), (6, 7), (0, 8), (1, 8), (2, 8), (3, 8), (4, 8), (5, 8), (0, 9), (1, 9), (2, 9), (3, 9), (4, 9), (5, 9), (0, 10), (1, 10), (2, 10), (3, 10), (4, 10), (5, 10), (0, 11), (1, 11), (2, 11), (3, 11), (4, 11), (5, 11), (6, 11), (7, 11), (8, 11), (9, 11), (10, 11), (0, 12), (1, 12), (2, 12), (3, 12), (4, 12), (5, 12), (6, 12), (7, 12), (8, 12), (9, 12), (10, 12), (11, 12), (0, 13), (1, 13), (2, 13), (3, 13), (4, 13), (5, 13), (6, 13), (7, 13), (8, 13), (9, 13), (10, 13), (0, 14), (1, 14), (2, 14), (3, 14), (4, 14), (5, 14), (6, 14), (7, 14), (8, 14), (9, 14), (10, 14), (0, 15), (1, 15), (2, 15), (3, 15), (4, 15), (5, 15), (6, 15), (7, 15), (8, 15), (9, 15), (10, 15), (0, 16), (1, 16), (2, 16), (3, 16), (4, 16), (5, 16), (6, 16), (7, 16), (8, 16), (9, 16), (10, 16), (11, 16), (12, 16), (13, 16), (14, 16), (15, 16), (0, 17), (1, 17), (2, 17), (3, 17), (4, 17), (5, 17), (6, 17), (7, 17), (8, 17), (9, 17), (10, 17), (11, 17), (12, 17), (13, 17), (14, 17), (15, 17), (16, 17), (0, 18), (1, 18), (2, 18), (3, 18), (4, 18), (5, 18), (6, 18), (7, 18), (8, 18), (9, 18), (10, 18), (11, 18), (12, 18), (13, 18), (14, 18), (15, 18), (0, 19), (0, 20)]) (by kernel_rfl) (by kernel_rfl) ?_
          refine ih (E.length - (j + 1)) _ _ _ (by omega) ⟨j + 1, sl, S, by omega, rfl, ?_⟩
          rw [hci]
          clear ih
          simp (config := { maxSteps := 2000000 }) (disch := omega) only [go_sem, *]
          omega
      · have e7 : ¬ (j : Int) < E.length := by omega
        obtain rfl : j = E.length := by omega
        rw [List.drop_length, refS, List.append_nil] at q6
        subst q6
        clear ih hrow hs k2 hc
        repeat' first | simp (config := { maxSteps := 2000000 }) (disch := omega) only [go_sem, *, Try.results41] | (first | apply EvG_ndec | apply EvC_ndec | apply EvG_dec | apply EvC_dec | apply EvC_nbool | apply EvC_bool | apply EvG_nbool | apply EvG_bool) <;> intro _ | (first | apply EvH_ndec | apply EvH_dec | apply EvH_nbool | apply EvH_bool) <;> intro _ | refine EvK_draw (id := 9) (L := [(0, 1), (0, 2), (1, 2), (0, 3), (0, 4), (0, 5), (0, 6), (1, 6), (2, 6), (3, 6), (4, 6), (5, 6), (0, 7), (1, 7), (2, 7), (3, 7), (4, 7), (5, 7), (6, 7), (0, 8), (1, 8), (2, 8), (3, 8), (4, 8), (5, 8), (0, 9), (1, 9), (2, 9), (3, 9), (4, 9), (5, 9), (0, 10), (1, 10), (2, 10), (3, 10), (4, 10), (5, 10), (0, 11), (1, 11), (2, 11), (3, 11), (4, 11), (5, 11), (6, 11), (7, 11), (8, 11), (9, 11), (10, 11), (0, 12), (1, 12), (2, 12), (3, 12), (4, 12), (5, 12), (6, 12), (7, 12), (8, 12), (9, 12), (10, 12), (11, 12), (0, 13), (1, 13), (2, 13), (3, 13), (4, 13), (5, 13), (6, 13), (7, 13), (8, 13), (9, 13), (10, 13), (0, 14), (1, 14), (2, 14), (3, 14), (4, 14), (5, 14), (6, 14), (7, 14), (8, 14), (9, 14), (10, 14), (0, 15), (1, 15), (2, 15), (3, 15), (4, 15), (5, 15), (6, 15), (7, 15), (8, 15), (9, 15), (10, 15), (0, 16), (1, 16), (2, 16), (3, 16), (4, 16), (5, 16), (6, 16), (7, 16), (8, 16), (9, 16), (10, 16), (11, 16), (12, 16), (13, 16), (14, 16), (15, 16), (0, 17), (1, 17), (2, 17), (3, 17), (4, 17), (5, 17), (6, 17), (7, 17), (8, 17), (9, 17), (10, 17), (11, 17), (12, 17), (13, 17), (14, 17), (15, 17), (16, 17), (0, 18), (1, 18), (2, 18), (3, 18), (4, 18), (5, 18), (6, 18), (7, 18), (8, 18), (9, 18), (10, 18), (11, 18), (12, 18), (13, 18), (14, 18), (15, 18), (0, 19), (0, 20)]) (by kernel_rfl) (by kernel_rfl) ?_
        exact ⟨_, rfl, q4.is⟩
set_option maxRecDepth 100000 in
set_option maxHeartbeats 2000000 in
theorem refSections {O : Over} (o55 : O 53 = fun _ => none) (o61 : O 59 = fun _ => none) (o56 : O 54 = endsS) (E : List Ev) (s : Value) (hn : E.length ≤ 100000) (h : PT ABlk) (N : Nat) (hW : WfH h N) (hs : IsEvs h s E) :
    EvB Try.prog O 42 [s] h N fun v h' n' => SecsV 1 E v h' ∧ Kept h h' := by
  obtain ⟨ba, bc, rfl, hrow⟩ := hs.len
  unfold SecsV
  refine EvB_run (N := 51) Try.func42 rfl rfl fun z hP hO hro hN hQ => ?_
  repeat' first | simp (config := { maxSteps := 2000000 }) (disch := omega) only [go_sem, *, Try.results42] | (first | apply EvG_ndec | apply EvC_ndec | apply EvG_dec | apply EvC_dec | apply EvC_nbool | apply EvC_bool | apply EvG_nbool | apply EvG_bool) <;> intro _ | (first | apply EvH_ndec | apply EvH_dec | apply EvH_nbool | apply EvH_bool) <;> intro _ | refine EvK_draw (id := 9) (L := [(0, 1), (0, 2), (1, 2), (0, 3), (0, 4), (0, 5), (0, 6), (1, 6), (2, 6), (3, 6), (4, 6), (5, 6), (0, 7), (1, 7), (2, 7), (3, 7), (4, 7), (5, 7), (6, 7), (0, 8), (1, 8), (2, 8), (3, 8), (4, 8), (5, 8), (0, 9), (1, 9), (2, 9), (3, 9), (4, 9), (5, 9), (0, 10), (1, 10), (2, 10), (3, 10), (4, 10), (5, 10), (0, 11), (1, 11), (2, 11), (3, 11), (4, 11), (5, 11), (6, 11), (7, 11), (8, 11), (9, 11), (10, 11), (0, 12), (1, 12), (2, 12), (3, 12), (4, 12), (5, 12), (6, 12), (7, 12), (8, 12), (9, 12), (10, 12), (11, 12), (0, 13), (1, 13), (2, 13), (3, 13), (4, 13), (5, 13), (6, 13), (7, 13), (8, 13), (9, 13), (10, 13), (0, 14), (1, 14), (2, 14), (3, 14), (4, 14), (5, 14), (6, 14), (7, 14), (8, 14), (9, 14), (10, 14), (0, 15), (1, 15), (2, 15), (3, 15), (4, 15), (5, 15), (6, 15), (7, 15), (8, 15), (9, 15), (10, 15), (0, 16), (1, 16), (2, 16), (3, 16), (4, 16), (5, 16), (6, 16), (7, 16), (8, 16), (9, 16), (10, 16), (11, 16), (12, 16), (13, 16), (14, 16), (15, 16), (0, 17), (1, 17), (2, 17), (3, 17), (4, 17), (5, 17), (6, 17), (7, 17), (8, 17), (9, 17), (10, 17), (11, 17), (12, 17), (13, 17), (14, 17), (15, 17), (16, 17), (0, 18), (1, 18), (2, 18), (3, 18), (4, 18), (5, 18), (6, 18), (7, 18), (8, 18), (9, 18), (10, 18), (11, 18), (12, 18), (13, 18), (14, 18), (15, 18), (0, 19), (0, 20)]) (by kernel_rfl) (by kernel_rfl) ?_
  refine EvQ_call ?_ ?_ (by rw [hP, hO]; exact (refCheckB o61 E _ hn _ _ hW hs).wf hW) ?_
  · simp (config := { maxSteps := 2000000 }) (disch := omega) only [go_sem, *]
  · simp (config := { maxSteps := 2000000 }) (disch := omega) only [go_sem, *]
  rintro v h2 n2 ⟨⟨hv, k2⟩, hn2, hW2⟩
  rcases hv with ⟨hc, k, rfl⟩ | ⟨hc, rfl⟩
  · rw [hc] at hQ
    clear hrow
    repeat' first | simp (config := { maxSteps := 2000000 }) (disch := omega) only [go_sem, *, Try.results42] | (first | apply EvG_ndec | apply EvC_ndec | apply EvG_dec | apply EvC_dec | apply EvC_nbool | apply EvC_bool | apply EvG_nbool | apply EvG_bool) <;> intro _ | (first | apply EvH_ndec | apply EvH_dec | apply EvH_nbool | apply EvH_bool) <;> intro _ | refine EvK_draw (id := 9) (L := [(0, 1), (0, 2), (1, 2), (0, 3), (0, 4), (0, 5), (0, 6), (1, 6), (2, 6), (3, 6), (4, 6), (5, 6), (0, 7), (1, 7), (2, 7), (3, 7), (4, 7), (5, 7), (6, 7), (0, 8), (1, 8), (2, 8), (3, 8), (4, 8), (5, 8), (0, 9), (1, 9), (2, 9), (3, 9), (4, 9), (5, 9), (0, 10), (1, 10), (2, 10), (3, 10), (4, 10), (5, 10), (0, 11), (1, 11), (2, 11), (3, 11), (4, 11), (5, 11), (6, 11), (7, 11), (8, 11), (9, 11), (10, 11), (0, 12), (1, 12), (2, 12), (3, 12), (4, 12), (5, 12), (6, 12), (7, 12), (8, 12), (9, 12), (10, 12), (11, 12), (0, 13), (1, 13), (2, 13), (3, 13), (4, 13), (5, 13), (6, 13), (7, 13), (8, 13), (9, 13), (10, 13), (0, 14), (1, 14), (2, 14), (3, 14), (4, 14), (5, 14), (6, 14), (7, 14), (8, 14), (9, 14), (10, 14), (0, 15), (1, 15), (2, 15), (3, 15), (4, 15), (5, 15), (6, 15), (7, 15), (8, 15), (9, 15), (10, 15), (0, 16), (1, 16), (2, 16), (3, 16), (4, 16), (5, 16), (6, 16), (7, 16), (8, 16), (9, 16), (10, 16), (11, 16), (12, 16), (13, 16), (14, 16), (15, 16), (0, 17), (1, 17), (2, 17), (3, 17), (4, 17), (5, 17), (6, 17), (7, 17), (8, 17), (9, 17), (10, 17), (11, 17), (12, 17), (13, 17), (14, 17), (15, 17), (16, 17), (0, 18), (1, 18), (2, 18), (3, 18), (4, 18), (5, 18), (6, 18), (7, 18), (8, 18), (9, 18), (10, 18), (11, 18), (12, 18), (13, 18), (14, 18), (15, 18), (0, 19), (0, 20)]) (by kernel_rfl) (by kernel_rfl) ?_
  · rw [hc] at hQ
    repeat' first | simp (config := { maxSteps := 2000000 }) (disch := omega) only [go_sem, *, Try.results42] | (first | apply EvG_ndec | apply EvC_ndec | apply EvG_dec | apply EvC_dec | apply EvC_nbool | apply EvC_bool | apply EvG_nbool | apply EvG_bool) <;> intro _ | (first | apply EvH_ndec | apply EvH_dec | apply EvH_nbool | apply EvH_bool) <;> intro _ | refine EvK_draw (id := 9) (L := [(0, 1), (0, 2), (1, 2), (0, 3), (0, 4), (0, 5), (0, 6), (1, 6), (2, 6), (3, 6), (4, 6), (5, 6), (0, 7), (1, 7), (2, 7), (3, 7), (4, 7), (5, 7), (6, 7), (0, 8), (1, 8), (2, 8), (3, 8), (4, 8), (5, 8), (0, 9), (1, 9), (2, 9), (3, 9), (4, 9), (5, 9), (0, 10), (1, 10), (2, 10), (3, 10), (4, 10), (5, 10), (0, 11), (1, 11), (2, 11), (3, 11), (4, 11), (5, 11), (6, 11), (7, 11), (8, 11), (9, 11), (10, 11), (0, 12), (1, 12), (2, 12), (3, 12), (4, 12), (5, 12), (6, 12), (7, 12), (8, 12), (9, 12), (10, 12), (11, 12), (0, 13), (1, 13), (2, 13), (3, 13), (4, 13), (5, 13), (6, 13), (7, 13), (8, 13), (9, 13), (10, 13), (0, 14), (1, 14), (2, 14), (3, 14), (4, 14), (5, 14), (6, 14), (7, 14), (8, 14), (9, 14), (10, 14), (0, 15), (1, 15), (2, 15), (3, 15), (4, 15), (5, 15), (6, 15), (7, 15), (8, 15), (9, 15), (10, 15), (0, 16), (1, 16), (2, 16), (3, 16), (4, 16), (5, 16), (6, 16), (7, 16), (8, 16), (9, 16), (10, 16), (11, 16), (12, 16), (13, 16), (14, 16), (15, 16), (0, 17), (1, 17), (2, 17), (3, 17), (4, 17), (5, 17), (6, 17), (7, 17), (8, 17), (9, 17), (10, 17), (11, 17), (12, 17), (13, 17), (14, 17), (15, 17), (16, 17), (0, 18), (1, 18), (2, 18), (3, 18), (4, 18), (5, 18), (6, 18), (7, 18), (8, 18), (9, 18), (10, 18), (11, 18), (12, 18), (13, 18), (14, 18), (15, 18), (0, 19), (0, 20)]) (by kernel_rfl) (by kernel_rfl) ?_
    refine ind_loop (fun t m h' n' => ∃ (j : Nat) (sl : Value) (S : List Sec), j ≤ E.length ∧ t = E.length - j ∧ m.n = 51 ∧ m.dfs = [] ∧ m.get 0 = .slice ba E.length bc ∧ m.get 6 = sl ∧ m.get 7 = .int .i64 j ∧ WfH h' n' ∧ N ≤ n' ∧ Kept h h' ∧ OwnSecs N h' sl S ∧ S.length ≤ j ∧ S ++ refS 1 (E.drop j) = refS 1 E) E.length ?_ ?_
    · refine ⟨0, .slice none 0 0, [], by omega, by omega, ?_⟩
      simp (config := { maxSteps := 2000000 }) (disch := omega) only [go_sem, *]
      exact .inl ⟨rfl, rfl⟩
    · rintro t m h' n' ih ⟨j, sl, S, hj, rfl, m1, m2, m3, m4, m5, q1, q2, q3, q4, q5, q6⟩
      rcases Nat.lt_or_ge j E.length with hlt | hge
      · have e7 : (j : Int) < E.length := by omega
        rw [refS_take hlt] at q6
        obtain ⟨b, rfl, hb0⟩ := hrow j hlt
        have hb := q3 _ _ hb0
        have hbN := hW.lt hb0
        have hpl : (evCs E).length = E.length * 4 := evCs_length E
        have c0 := evCs_cell (j := 0) hlt (by omega)
        have c1 := evCs_cell (j := 1) hlt (by omega)
        have c2 := evCs_cell (j := 2) hlt (by omega)
        have c3 := evCs_cell (j := 3) hlt (by omega)
        have hg := endsG_eq hlt hn
        have hci : ((j + 1 : Nat) : Int) = (j : Int) + 1 := by omega
        obtain ⟨⟨st, th, kd, val⟩, hx⟩ : ∃ x, E[j] = x := ⟨_, rfl⟩
        rw [hx] at c0 c1 c2 c3 hg q6
        simp only [evC, List.getElem?_cons_zero, List.getElem?_cons_succ, Nat.add_zero] at c0 c1 c2 c3
        simp only at hg q6
        clear hQ hrow hb0 hx hs hc k2 hW2 hn2
        by_cases hk : kd = 1
        · subst hk
          rw [if_pos rfl] at q6
          generalize nxt th (E.drop (j + 1)) = e at hg q6
          have hS4 : (secCs S).length = S.length * 4 := secCs_length S
          rcases q4 with ⟨rfl, rfl⟩ | ⟨g, hgN, rfl, hgr⟩
          · clear q5 hS4
            repeat' first | simp (config := { maxSteps := 2000000 }) (disch := omega) only [go_sem, *, Try.results42, endsS_eq, getP] | (first | apply EvG_ndec | apply EvC_ndec | apply EvG_dec | apply EvC_dec | apply EvC_nbool | apply EvC_bool | apply EvG_nbool | apply EvG_bool) <;> intro _ | (first | apply EvH_ndec | apply EvH_dec | apply EvH_nbool | apply EvH_bool) <;> intro _ | refine EvK_draw (id := 9) (L := [(0, 1), (0, 2), (1, 2), (0, 3), (0, 4), (0, 5), (0, 6), (1, 6), (2, 6), (3, 6), (4, 6), (5, 6), (0, 7), (1, 7), (2, 7), (3, 7), (4, 7), (5, 7), (6, 7), (0, 8), (1, 8), (2, 8), (3, 8), (4, 8), (5, 8), (0, 9), (1, 9), (2, 9), (3, 9), (4, 9), (5, 9), (0, 10), (1, 10), (2, 10), (3, 10), (4, 10), (5, 10), (0, 11), (1, 11), (2, 11), (3, 11), (4, 11), (5, 11), (6, 11), (7, 11), (8, 11), (9, 11), (10, 11), (0, 12), (1, 12), (2, 12), (3, 12), (4, 12), (5, 12), (6, 12), (7, 12), (8, 12), (9, 12), (10, 12), (11, 12), (0, 13), (1, 13), (2, 13), (3, 13), (4, 13), (5, 13), (6, 13), (7, 13), (8, 13), (9, 13), (10, 13), (0, 14), (1, 14), (2, 14), (3, 14), (4, 14), (5, 14), (6, 14), (7, 14), (8, 14), (9, 14), (10, 14), (0, 15), (1, 15), (2, 15), (3, 15), (4, 15), (5, 15), (6, 15), (7, 15), (8, 15), (9, 15), (10, 15), (0, 16), (1, 16), (2, 16), (3, 16), (4, 16), (5, 16), (6, 16), (7, 16), (8, 16), (9, 16), (10, 16), (11, 16), (12, 16), (13, 16), (14, 16), (15, 16), (0, 17), (1, 17), (2, 17), (3, 17), (4, 17), (5, 17), (6, 17), (7, 17), (8, 17), (9, 17), (10, 17), (11, 17), (12, 17), (13, 17), (14, 17), (15, 17), (16, 17), (0, 18), (1, 18), (2, 18), (3, 18), (4, 18), (5, 18), (6, 18), (7, 18), (8, 18), (9, 18), (10, 18), (11, 18), (12, 18), (13, 18), (14, 18), (15, 18), (0, 19), (0, 20)]) (by kernel_rfl) (by kernel_rfl) ?_
            refine ih (E.length - (j + 1)) _ _ _ (by omega) ⟨j + 1, .slice (some ⟨n' + 1, 0, none⟩) 1 (capInf + 4), [(th, val, st, e)], by omega, rfl, ?_⟩
            rw [hci]
            clear ih
            simp (config := { maxSteps := 2000000 }) (disch := omega) only [go_sem, *]
            refine ⟨WfH.set' (by omega) (q1.set (by omega) (by omega)), by omega, Kept.set' hW (by omega) (Kept.set' hW (by omega) q3), .inr ⟨n' + 1, by omega, rfl, heap_same⟩, q6⟩
          · have hgn := q1.lt hgr
            have htk : (secCs S).take (S.length * 4) = secCs S := by rw [← hS4]; exact List.take_length
            have hbq : (S.length * 4).beq (S.length * 4) = true := Nat.beq_refl _
            have hble : (S.length + 1).ble 1048576 = true := Nat.ble_eq_true_of_le (by omega)
            have hsn : secCs S ++ [.int .i64 th, .int .u64 val, .int .i64 st, .int .i64 e] = secCs (S ++ [(th, val, st, e)]) := (secCs_snoc S (th, val, st, e)).symm
            repeat' first | simp (config := { maxSteps := 2000000 }) (disch := omega) only [go_sem, *, Try.results42, endsS_eq, getP] | (first | apply EvG_ndec | apply EvC_ndec | apply EvG_dec | apply EvC_dec | apply EvC_nbool | apply EvC_bool | apply EvG_nbool | apply EvG_bool) <;> intro _ | (first | apply EvH_ndec | apply EvH_dec | apply EvH_nbool | apply EvH_bool) <;> intro _ | refine EvK_draw (id := 9) (L := [(0, 1), (0, 2), (1, 2), (0, 3), (0, 4), (0, 5), (0, 6), (1, 6), (2, 6), (3, 6), (4, 6), (5, 6), (0, 7), (1, 7), (2, 7), (3, 7), (4, 7), (5, 7), (6, 7), (0, 8), (1, 8), (2, 8), (3, 8), (4, 8), (5, 8), (0, 9), (1, 9), (2, 9), (3, 9), (4, 9), (5, 9), (0, 10), (1, 10), (2, 10), (3, 10), (4, 10), (5, 10), (0, 11), (1, 11), (2, 11), (3, 11), (4, 11), (5, 11), (6, 11), (7, 11), (8, 11), (9, 11), (10, 11), (0, 12), (1, 12), (2, 12), (3, 12), (4, 12), (5, 12), (6, 12), (7, 12), (8, 12), (9, 12), (10, 12), (11, 12), (0, 13), (1, 13), (2, 13), (3, 13), (4, 13), (5, 13), (6, 13), (7, 13), (8, 13), (9, 13), (10, 13), (0, 14), (1, 14), (2, 14), (3, 14), (4, 14), (5, 14), (6, 14), (7, 14), (8, 14), (9, 14), (10, 14), (0, 15), (1, 15), (2, 15), (3, 15), (4, 15), (5, 15), (6, 15), (7, 15), (8, 15), (9, 15), (10, 15), (0, 16), (1, 16), (2, 16), (3, 16), (4, 16), (5, 16), (6, 16), (7, 16), (8, 16), (9, 16), (10, 16), (11, 16), (12, 16), (13, 16), (14, 16), (15, 16), (0, 17), (1, 17), (2, 17), (3, 17), (4, 17), (5, 17), (6, 17), (7, 17), (8, 17), (9, 17), (10, 17), (11, 17), (12, 17), (13, 17), (14, 17), (15, 17), (16, 17), (0, 18), (1, 18), (2, 18), (3, 18), (4, 18), (5, 18), (6, 18), (7, 18), (8, 18), (9, 18), (10, 18), (11, 18), (12, 18), (13, 18), (14, 18), (15, 18), (0, 19), (0, 20)]) (by kernel_rfl) (by kernel_rfl) ?_
            refine ih (E.length - (j + 1)) _ _ _ (by omega) ⟨j + 1, .slice (some ⟨n' + 1, 0, none⟩) (S.length + 1) (capInf + 4), S ++ [(th, val, st, e)], by omega, rfl, ?_⟩
            rw [hci]
            clear ih
            simp (config := { maxSteps := 2000000 }) (disch := omega) only [go_sem, *]
            exact ⟨WfH.set' (by omega) (WfH.set' (by omega) (q1.set (by omega) (by omega))), by omega, Kept.set' hW (by omega) (Kept.set' hW (by omega) (Kept.set' hW (by omega) q3)), .inr ⟨n' + 1, by omega, by rw [List.length_append]; rfl, heap_same⟩⟩
        · rw [if_neg hk] at q6
          repeat' first | simp (config := { maxSteps := 2000000 }) (disch := omega) only [go_sem, *, Try.results42] | (first | apply EvG_ndec | apply EvC_ndec | apply EvG_dec | apply EvC_dec | apply EvC_nbool | apply EvC_bool | apply EvG_nbool | apply EvG_bool) <;> intro _ | (first | apply EvH_ndec | apply EvH_dec | apply EvH_nbool | apply EvH_bool) <;> intro _ | refine EvK_draw (id := 9) (L := [(0, 1), (0, 2), (1, 2), (0, 3), (0, 4), (0, 5), (0, 6), (1, 6), (2, 6), (3, 6), (4, 6), (5, 6), (0, 7), (1, 7), (2, 7), (3, 7), (4, 7), (5, 7), (6, 7), (0, 8), (1, 8), (2, 8), (3, 8), (4, 8), (5, 8), (0, 9), (1, 9), (2, 9), (3, 9), (4, 9), (5, 9), (0, 10), (1, 10), (2, 10), (3, 10), (4, 10), (5, 10), (0, 11), (1, 11), (2, 11), (3, 11), (4, 11), (5, 11), (6, 11), (7, 11), (8, 11), (9, 11), (10, 11), (0, 12), (1, 12), (2, 12), (3, 12), (4, 12), (5, 12), (6, 12), (7, 12), (8, 12), (9, 12), (10, 12), (11, 12), (0, 13), (1, 13), (2, 13), (3, 13), (4, 13), (5, 13), (6, 13), (7, 13), (8, 13), (9, 13), (10, 13), (0, 14), (1, 14), (2, 14), (3, 14), (4, 14), (5, 14), (6, 14), (7, 14), (8, 14), (9, 14), (10, 14), (0, 15), (1, 15), (2, 15), (3, 15), (4, 15), (5, 15), (6, 15), (7, 15), (8, 15), (9, 15), (10, 15), (0, 16), (1, 16), (2, 16), (3, 16), (4, 16), (5, 16), (6, 16), (7, 16), (8, 16), (9, 16), (10, 16), (11, 16), (12, 16), (13, 16), (14, 16), (15, 16), (0, 17), (1, 17), (2, 17), (3, 17), (4, 17), (5, 17), (6, 17), (7, 17), (8, 17), (9, 17), (10, 17), (11, 17), (12, 17), (13, 17), (14, 17), (15, 17), (16, 17), (0, 18), (1, 18), (2, 18), (3, 18), (4, 18), (5, 18), (6, 18), (7, 18), (8, 18), (9, 18), (10, 18), (11, 18), (12, 18), (13, 18), (14, 18), (15, 18), (0, 19), (0, 20)]) (by kernel_rfl) (by kernel_rfl) ?_
          refine ih (E.length - (j + 1)) _ _ _ (by omega) ⟨j + 1, sl, S, by omega, rfl, ?_⟩
          rw [hci]
          clear ih
          simp (config := { maxSteps := 2000000 }) (disch := omega) only [go_sem, *]
          omega
      · have e7 : ¬ (j : Int) < E.length := by omega
        obtain rfl : j = E.length := by omega
        rw [List.drop_length, refS, List.append_nil] at q6
        subst q6
        clear ih hrow hs k2 hc
        repeat' first | simp (config := { maxSteps := 2000000 }) (disch := omega) only [go_sem, *, Try.results42] | (first | apply EvG_ndec | apply EvC_ndec | apply EvG_dec | apply EvC_dec | apply EvC_nbool | apply EvC_bool | apply EvG_nbool | apply EvG_bool) <;> intro _ | (first | apply EvH_ndec | apply EvH_dec | apply EvH_nbool | apply EvH_bool) <;> intro _ | refine EvK_draw (id := 9) (L := [(0, 1), (0, 2), (1, 2), (0, 3), (0, 4), (0, 5), (0, 6), (1, 6), (2, 6), (3, 6), (4, 6), (5, 6), (0, 7), (1, 7), (2, 7), (3, 7), (4, 7), (5, 7), (6, 7), (0, 8), (1, 8), (2, 8), (3, 8), (4, 8), (5, 8), (0, 9), (1, 9), (2, 9), (3, 9), (4, 9), (5, 9), (0, 10), (1, 10), (2, 10), (3, 10), (4, 10), (5, 10), (0, 11), (1, 11), (2, 11), (3, 11), (4, 11), (5, 11), (6, 11), (7, 11), (8, 11), (9, 11), (10, 11), (0, 12), (1, 12), (2, 12), (3, 12), (4, 12), (5, 12), (6, 12), (7, 12), (8, 12), (9, 12), (10, 12), (11, 12), (0, 13), (1, 13), (2, 13), (3, 13), (4, 13), (5, 13), (6, 13), (7, 13), (8, 13), (9, 13), (10, 13), (0, 14), (1, 14), (2, 14), (3, 14), (4, 14), (5, 14), (6, 14), (7, 14), (8, 14), (9, 14), (10, 14), (0, 15), (1, 15), (2, 15), (3, 15), (4, 15), (5, 15), (6, 15), (7, 15), (8, 15), (9, 15), (10, 15), (0, 16), (1, 16), (2, 16), (3, 16), (4, 16), (5, 16), (6, 16), (7, 16), (8, 16), (9, 16), (10, 16), (11, 16), (12, 16), (13, 16), (14, 16), (15, 16), (0, 17), (1, 17), (2, 17), (3, 17), (4, 17), (5, 17), (6, 17), (7, 17), (8, 17), (9, 17), (10, 17), (11, 17), (12, 17), (13, 17), (14, 17), (15, 17), (16, 17), (0, 18), (1, 18), (2, 18), (3, 18), (4, 18), (5, 18), (6, 18), (7, 18), (8, 18), (9, 18), (10, 18), (11, 18), (12, 18), (13, 18), (14, 18), (15, 18), (0, 19), (0, 20)]) (by kernel_rfl) (by kernel_rfl) ?_
        exact ⟨_, rfl, q4.is⟩
end Go.Proofs.Ythhohpbghfbkbaa
