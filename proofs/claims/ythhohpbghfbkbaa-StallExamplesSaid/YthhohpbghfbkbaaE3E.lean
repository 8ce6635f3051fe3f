/-
  A part of the proof: contracts of inner functions.
-/
import Derived.Test.YthhohpbghfbkbaaE3B
import Derived.Test.YthhohpbghfbkbaaE2J
set_option linter.unusedVariables false
set_option linter.unusedSimpArgs false
namespace Go.Proofs.Ythhohpbghfbkbaa
open Go.Am

/-- A map of numbers to numbers. -/
abbrev MI := List (Int × Int × Nat)
def ments2 (M : MI) : List (Value × Value × Nat) := M.map fun e => (.int .i64 e.1, .int .i64 e.2.1, e.2.2)
def posI (x : Int) : MI → Nat → Option (Nat × Int)
  | [], _ => none
  | e :: r, i => if x = e.1 then some (i, e.2.1) else posI x r (i + 1)
def valI (x : Int) (M : MI) : Option Int := (posI x M 0).map (·.2)
theorem posI_shift (x : Int) : ∀ (M : MI) (i : Nat), (posI x M i).map (·.2) = valI x M
  | [], _ => rfl
  | e :: r, i => by
    unfold valI posI
    split
    · rfl
    · rw [posI_shift x r, posI_shift x r]
theorem findI (x : Int) : ∀ (M : MI) (i : Nat), findPair (.int .i64) (.int .i64 x) (ments2 M) i = some ((posI x M i).map fun q => (q.1, .int .i64 q.2))
  | [], i => rfl
  | e :: r, i => by
    have ih := findI x r (i + 1)
    have e1 : ments2 (e :: r) = (.int .i64 e.1, .int .i64 e.2.1, e.2.2) :: ments2 r := rfl
    rw [e1, findPair, posI]
    have hs : Instr.sameNow (.int .i64) (.int .i64 x) (.int .i64 e.1) = some (decide (x = e.1)) := by
      simp only [Instr.sameNow]
      rw [if_pos trivial]
      rfl
    by_cases h : x = e.1
    · simp only [hs, decide_eq_true h, if_pos h, Option.map]
    · simp only [hs, decide_eq_false h, if_neg h]
      exact ih
theorem und89 : Try.prog.underlying 106 = some (.map 3 3) := by kernel_rfl
theorem lk89 {r : Nat} {x : Int} : lkQ Try.prog 106 (.map (some r)) (.int .i64 x) false = .get r (lkB Try.prog (.int .i64) 3 (.int .i64 x) false) := lkQ_map und89 und3 (keyOk3 x)
theorem lkB89 {x v : Int} {M : MI} {c : Nat} (h : valI x M = some v) : lkB Try.prog (.int .i64) 3 (.int .i64 x) false (.map (ments2 M) c) = .pure (.value (.int .i64 v)) := by
  rw [lkB_map]
  show lkR Try.prog 3 false (findPair (.int .i64) (.int .i64 x) (ments2 M) 0) = _
  rw [findI]
  unfold valI at h
  cases hp : posI x M 0 with
  | none => rw [hp] at h; simp at h
  | some q =>
    rw [hp] at h
    simp only [Option.map_some, Option.some.injEq] at h
    subst h
    rfl
theorem mu89 {r : Nat} {x : Int} {v : Value} : muQ Try.prog 106 (.map (some r)) (.int .i64 x) v = .get r (muB Try.prog r (.int .i64) (.int .i64 x) v) := muQ_map und89 und3 (keyOk3 x)
theorem put_I (x v : Int) : ∀ (M : MI) (i k : Nat) (w : Int), posI x M i = some (i + k, w) → ∃ M', putEntry (.int .i64 x) (.int .i64 v) (ments2 M) k = ments2 M' ∧ ∀ y, valI y M' = if y = x then some v else valI y M
  | [], i, k, w, h => by simp [posI] at h
  | e :: r, i, k, w, h => by
    rw [posI] at h
    by_cases hx : x = e.1
    · rw [if_pos hx] at h
      have : i = i + k := congrArg Prod.fst (Option.some.inj h)
      obtain rfl : k = 0 := by omega
      refine ⟨(x, v, e.2.2) :: r, rfl, fun y => ?_⟩
      unfold valI posI
      rw [← hx]
      by_cases hy : y = x
      · simp [hy]
      · simp only [if_neg hy]
    · rw [if_neg hx] at h
      cases k with
      | zero =>
        exfalso
        have key : ∀ (M : MI) (i : Nat) q, posI x M i = some q → i ≤ q.1 := by
          intro M
          induction M with
          | nil => intro i q h; simp [posI] at h
          | cons a M ih =>
            intro i q h
            rw [posI] at h
            split at h
            · obtain rfl := Option.some.inj h; exact Nat.le_refl _
            · have := ih _ _ h; omega
        have := key _ _ _ h
        simp only at this
        omega
      | succ k =>
        obtain ⟨M', e1, e2⟩ := put_I x v r (i + 1) k w (by rw [h]; congr 2; omega)
        refine ⟨e :: M', by rw [show ments2 (e :: r) = (.int .i64 e.1, .int .i64 e.2.1, e.2.2) :: ments2 r from rfl, putEntry, e1]; rfl, fun y => ?_⟩
        have := e2 y
        unfold valI posI
        by_cases hy : y = e.1
        · have hyx : ¬ y = x := fun q => hx (q ▸ hy)
          simp only [if_pos hy, if_neg hyx]
        · simp only [if_neg hy]
          rw [posI_shift, posI_shift]
          exact this
theorem valI_snoc (x v : Int) (c : Nat) (y : Int) : ∀ (M : MI), valI x M = none → valI y (M ++ [(x, v, c)]) = if y = x then some v else valI y M
  | [], _ => by
    unfold valI
    simp only [List.nil_append, posI]
    split <;> rfl
  | e :: r, h => by
    unfold valI posI at h
    by_cases hx : x = e.1
    · rw [if_pos hx] at h; simp at h
    · rw [if_neg hx, posI_shift] at h
      have := valI_snoc x v c y r h
      rw [List.cons_append]
      unfold valI posI
      by_cases hy : y = e.1
      · have hyx : ¬ y = x := fun q => hx (q ▸ hy)
        simp only [if_pos hy, if_neg hyx]
      · simp only [if_neg hy]
        rw [posI_shift, posI_shift]
        exact this
theorem muB89 {r : Nat} {x v : Int} {M : MI} {c : Nat} : ∃ M' c', muB Try.prog r (.int .i64) (.int .i64 x) (.int .i64 v) (.map (ments2 M) c) = .set r (.map (ments2 M') c') (.pure .skip) ∧ ∀ y, valI y M' = if y = x then some v else valI y M := by
  rw [muB_map]
  have hf : findKeyA Try.prog (.int .i64) (.int .i64 x) (ments2 M) 0 = some ((posI x M 0).map fun q => (q.1, .int .i64 q.2)) := findI x M 0
  rw [hf]
  cases hp : posI x M 0 with
  | none =>
    refine ⟨M ++ [(x, v, c)], c + 1, ?_, fun y => valI_snoc x v c y M (by unfold valI; rw [hp]; rfl)⟩
    unfold muR
    simp only [Option.map_none, ments2, List.map_append, List.map_cons, List.map_nil]
  | some q =>
    obtain ⟨M', e1, e2⟩ := put_I x v M 0 q.1 q.2 (by rw [hp, Nat.zero_add])
    refine ⟨M', c, ?_, e2⟩
    unfold muR
    simp only [Option.map_some, e1]
    rfl

/-- What is open, and where the map leads. -/
structure PInv (bg : Int) (T : TS) (S : List Sec) (M : MI) : Prop where
  opn : ∀ (k : Nat) (s : Sec), S[k]? = some s → s.2.2.2 = -1 → (T s.1).1 = bg ∧ valI s.1 M = some (k : Int)
  has : ∀ t, (T t).1 = bg → ∃ (k : Nat) (s : Sec), S[k]? = some s ∧ s.1 = t ∧ s.2.2.2 = -1
theorem PInv.empty {bg : Int} (h : bg ≠ 0) {M : MI} : PInv bg T0 [] M := ⟨fun k s e => by simp at e, fun t e => absurd e.symm h⟩
theorem clo_none {th st : Int} {S : List Sec} (h : ∀ s ∈ S, ¬ (s.1 = th ∧ s.2.2.2 = -1)) : S.map (clo th st) = S := by
  conv => rhs; rw [← List.map_id S]
  refine List.map_congr_left fun s hs => ?_
  unfold clo
  rw [if_neg (h s hs)]; rfl
theorem PInv.shut {bg : Int} {T : TS} {S : List Sec} {M : MI} (H : PInv bg T S M) {th : Int} (h : (T th).1 ≠ bg) (st : Int) : S.map (clo th st) = S := by
  refine clo_none fun s hs q => ?_
  obtain ⟨k, hk⟩ := List.mem_iff_getElem?.1 hs
  have := (H.opn k s hk q.2).1
  rw [q.1] at this
  exact h this
/-- Something begins. -/
theorem PInv.begin_ {bg : Int} {T : TS} {S : List Sec} {M M' : MI} (H : PInv bg T S M) {st th val : Int} {p : Int × Int} (h : (T th).1 ≠ bg) (hp : p.1 = bg) (hM : ∀ y, valI y M' = if y = th then some (S.length : Int) else valI y M) :
    PInv bg (updT T th p) (S ++ [(th, val, st, -1)]) M' := by
  constructor
  · intro k s hk hs
    rw [List.getElem?_append] at hk
    split at hk
    · obtain ⟨a, b⟩ := H.opn k s hk hs
      have hne : ¬ s.1 = th := fun q => h (q ▸ a)
      unfold updT
      rw [if_neg hne, hM, if_neg hne]
      exact ⟨a, b⟩
    · rename_i hl
      have hkl : k - S.length = 0 := by
        have := (List.getElem?_eq_some_iff.1 hk).1
        simp at this; omega
      rw [hkl] at hk
      simp only [List.getElem?_cons_zero, Option.some.injEq] at hk
      subst hk
      obtain rfl : k = S.length := by omega
      refine ⟨?_, ?_⟩
      · show (if th = th then p else T th).1 = bg
        rw [if_pos rfl]; exact hp
      · rw [hM]
        show (if th = th then some (S.length : Int) else valI th M) = some (S.length : Int)
        rw [if_pos rfl]
  · intro t ht
    unfold updT at ht
    split at ht
    · rename_i e
      subst e
      exact ⟨S.length, (t, val, st, -1), by simp, rfl, rfl⟩
    · obtain ⟨k, s, hk, h1, h2⟩ := H.has t ht
      exact ⟨k, s, by rw [List.getElem?_append_left (List.getElem?_eq_some_iff.1 hk).1]; exact hk, h1, h2⟩
/-- Something ends. -/
theorem PInv.end_ {bg : Int} {T : TS} {S : List Sec} {M : MI} (H : PInv bg T S M) {st th : Int} {p : Int × Int} (h : (T th).1 = bg) (hp : p.1 ≠ bg) (hst : st ≠ -1) :
    ∃ (k : Nat) (s : Sec), S[k]? = some s ∧ valI th M = some (k : Int) ∧ S.map (clo th st) = S.set k (s.1, s.2.1, s.2.2.1, st) ∧ PInv bg (updT T th p) (S.set k (s.1, s.2.1, s.2.2.1, st)) M := by
  obtain ⟨k, s, hk, h1, h2⟩ := H.has th h
  have hv := (H.opn k s hk h2).2
  rw [h1] at hv
  have hkl := (List.getElem?_eq_some_iff.1 hk).1
  have huniq : ∀ (j : Nat) (u : Sec), S[j]? = some u → u.1 = th → u.2.2.2 = -1 → j = k := by
    intro j u hj hu1 hu2
    have := (H.opn j u hj hu2).2
    rw [hu1, hv] at this
    have := Option.some.inj this
    omega
  refine ⟨k, s, hk, hv, ?_, ?_⟩
  · apply List.ext_getElem?
    intro j
    rw [List.getElem?_map, List.getElem?_set]
    by_cases hj : k = j
    · subst hj
      rw [if_pos rfl, if_pos hkl, hk]
      simp only [Option.map_some, clo]
      rw [if_pos ⟨h1, h2⟩]
    · rw [if_neg hj]
      cases hu : S[j]? with
      | none => rfl
      | some u =>
        simp only [Option.map_some, clo]
        rw [if_neg fun q => hj (huniq j u hu q.1 q.2).symm]
  · constructor
    · intro j u hj hu
      rw [List.getElem?_set] at hj
      split at hj
      · rename_i e
        subst e
        try rw [if_pos hkl] at hj
        obtain rfl := Option.some.inj hj
        exact absurd hu hst
      · rename_i e
        obtain ⟨a, b⟩ := H.opn j u hj hu
        have hne : ¬ u.1 = th := fun q => e (huniq j u hj q hu).symm
        unfold updT
        rw [if_neg hne]
        exact ⟨a, b⟩
    · intro t ht
      unfold updT at ht
      split at ht
      · exact absurd ht hp
      · rename_i e
        obtain ⟨j, u, hj, a, b⟩ := H.has t ht
        have : ¬ k = j := fun q => by subst q; rw [hk] at hj; obtain rfl := Option.some.inj hj; exact e (a ▸ h1)
        exact ⟨j, u, by rw [List.getElem?_set, if_neg this]; exact hj, a, b⟩
/-- Another event. -/
theorem PInv.other {bg : Int} {T : TS} {S : List Sec} {M : MI} (H : PInv bg T S M) {th : Int} {p : Int × Int} (h : (T th).1 ≠ bg) (hp : p.1 ≠ bg) : PInv bg (updT T th p) S M := by
  constructor
  · intro k s hk hs
    obtain ⟨a, b⟩ := H.opn k s hk hs
    have hne : ¬ s.1 = th := fun q => h (q ▸ a)
    unfold updT
    rw [if_neg hne]
    exact ⟨a, b⟩
  · intro t ht
    unfold updT at ht
    split at ht
    · exact absurd ht hp
    · exact H.has t ht
theorem secCs_set : ∀ (S : List Sec) (k : Nat) (a b c d e : Int), S[k]? = some (a, b, c, d) → (secCs S).set (k * 4 + 3) (.int .i64 e) = secCs (S.set k (a, b, c, e))
  | [], k, a, b, c, d, e, h => by simp at h
  | x :: S, 0, a, b, c, d, e, h => by
    simp only [List.getElem?_cons_zero, Option.some.injEq] at h
    subst h
    rfl
  | x :: S, k + 1, a, b, c, d, e, h => by
    simp only [List.getElem?_cons_succ] at h
    have := secCs_set S k a b c d e h
    rw [List.set_cons_succ, show (k + 1) * 4 + 3 = (k * 4 + 3) + 4 by omega]
    show ((secC x) ++ secCs S).set _ _ = secC x ++ secCs (S.set k (a, b, c, e))
    rw [← this]
    rfl
end Go.Proofs.Ythhohpbghfbkbaa

set_option linter.unusedVariables false
set_option linter.unusedSimpArgs false
namespace Go.Proofs.Ythhohpbghfbkbaa
open Go.Am

theorem ev_step {bg : Int} (hbg : bg = 1 ∨ bg = 3) {kd i x val : Int} (hk : 1 ≤ kd ∧ kd ≤ 4) (h : (rl kd i x val).2.2 = true) :
    (kd = bg → i ≠ bg ∧ (rl kd i x val).1 = bg) ∧ (kd = bg + 1 → i = bg ∧ (rl kd i x val).1 ≠ bg) ∧ (kd ≠ bg → kd ≠ bg + 1 → i ≠ bg ∧ (rl kd i x val).1 ≠ bg) := by
  have hcs : kd = 1 ∨ kd = 2 ∨ kd = 3 ∨ kd = 4 := by omega
  rcases hcs with rfl | rfl | rfl | rfl <;> rcases hbg with rfl | rfl <;>
    (simp only [rl, enterT, exitT, waitT, doneT, Int.reduceEq, ↓reduceIte, decide_eq_true_eq] at h
     simp [rl, enterT, exitT, waitT, doneT]
     try omega)
theorem foldl_take {bg : Int} {E : List Ev} {i : Nat} (hi : i < E.length) : (E.take (i + 1)).foldl (secStep bg) [] = secStep bg ((E.take i).foldl (secStep bg) []) E[i] := by
  rw [List.take_succ_eq_append_getElem hi, List.foldl_append]; rfl
theorem secStep_length (bg : Int) (S : List Sec) (x : Ev) : (secStep bg S x).length ≤ S.length + 1 := by
  unfold secStep
  rw [List.length_append, List.length_map]
  split <;> simp
theorem fold_secs_length (bg : Int) (E : List Ev) : (E.foldl (secStep bg) []).length ≤ E.length := by
  have key : ∀ (E : List Ev) (S : List Sec), (E.foldl (secStep bg) S).length ≤ S.length + E.length := by
    intro E
    induction E with
    | nil => intro S; exact Nat.le_refl _
    | cons x E ih =>
      intro S
      have h1 := ih (secStep bg S x)
      have h2 := secStep_length bg S x
      rw [List.foldl_cons, List.length_cons]; omega
  have := key E []
  simpa using this
theorem runs_step : ∀ (E : List Ev) (p : Option Ev) (T : TS), runs p T E = true → ∀ x ∈ E, x.1 ≠ -1
  | [], _, _, _ => by simp
  | x :: E, p, T, h => by
    simp only [runs, Bool.and_eq_true] at h
    intro y hy
    rcases List.mem_cons.1 hy with rfl | q
    · have := of_decide_eq_true h.1
      omega
    · exact runs_step E _ _ h.2.2.2 y q
theorem chk_secs {bg : Int} {E : List Ev} (h : chk E = true) : E.foldl (secStep bg) [] = refS bg E := secs_refS (runs_step E none T0 h)
theorem endG_eq {S : List Sec} {k : Nat} {a b c d st : Int} (h : S[k]? = some (a, b, c, d)) : endG (k * 4) st (secCs S) = some (secCs (S.set k (a, b, c, st)), .tuple ⟨[]⟩) := by
  have hk := (List.getElem?_eq_some_iff.1 h).1
  have hl := secCs_length S
  unfold endG
  rw [if_pos (by omega), secCs_set S k a b c d st h]
theorem begWaits {O : Over} (st th kd val : Int) (h : PT ABlk) (N : Nat) : EvB Try.prog O 51 [.agg ⟨[.int .i64 st, .int .i64 th, .int .u8 kd, .int .u64 val]⟩] h N fun v h' n' => v = .agg ⟨[.int .i64 th, .int .u64 val, .int .i64 st, .int .i64 (-1)]⟩ ∧ ∀ i, i < N → h'.get i = h.get i := by
  refine EvB_run (N := 10) Try.func51 rfl rfl fun z hP hO hro hN hQ => ?_
  repeat' first | simp (config := { maxSteps := 2000000 }) (disch := omega) only [go_sem, *, Try.results51] | (first | apply EvG_ndec | apply EvC_ndec | apply EvG_dec | apply EvC_dec | apply EvC_nbool | apply EvC_bool | apply EvG_nbool | apply EvG_bool) <;> intro _
  exact fun i hi => by simp (disch := omega) only [heap_ne]
set_option maxRecDepth 100000 in
set_option maxHeartbeats 2000000 in
theorem pairsWaits {O : Over} (hO2 : Follows O) (o57 : O 71 = fun _ => none) (o47 : O 58 = fun _ => none) (oc : O 51 = fun _ => none) (oe : O 52 = endS) (E : List Ev) (s : Value) (hn : E.length ≤ 100000) (h : PT ABlk) (N : Nat) (hW : WfH h N) (hs : IsEvs h s E) :
    EvB Try.prog O 50 [s, .int .u8 3, .int .u8 4, .func (.func 51) ⟨[]⟩ ⟨[]⟩, .func (.func 52) ⟨[]⟩ ⟨[]⟩] h N fun v h' n' => SecsV 3 E v h' ∧ Kept h h' := by
  obtain ⟨ba, bc, rfl, hrow⟩ := hs.len
  unfold SecsV
  refine EvB_run (N := 64) Try.func50 rfl rfl fun z hP hO hro hN hQ => ?_
  repeat' first | simp (config := { maxSteps := 2000000 }) (disch := omega) only [go_sem, *, Try.results50] | (first | apply EvG_ndec | apply EvC_ndec | apply EvG_dec | apply EvC_dec | apply EvC_nbool | apply EvC_bool | apply EvG_nbool | apply EvG_bool) <;> intro _ | (first | apply EvH_ndec | apply EvH_dec | apply EvH_nbool | apply EvH_bool) <;> intro _ | refine EvK_draw (id := 14) (L := [(0, 1), (0, 2), (1, 2), (0, 3), (1, 3), (2, 3), (0, 4), (1, 4), (2, 4), (0, 5), (1, 5), (0, 6), (0, 7), (1, 7), (2, 7), (3, 7), (4, 7), (5, 7), (6, 7), (0, 8), (1, 8), (2, 8), (3, 8), (4, 8), (5, 8), (6, 8)]) (by kernel_rfl) (by kernel_rfl) ?_
  refine EvQ_call ?_ ?_ (by rw [hP, hO]; exact (checkB hO2 o57 E _ hn _ _ hW hs).wf hW) ?_
  · simp (config := { maxSteps := 2000000 }) (disch := omega) only [go_sem, *]
  · simp (config := { maxSteps := 2000000 }) (disch := omega) only [go_sem, *]
  rintro v h2 n2 ⟨⟨hv, k2⟩, hn2, hW2⟩
  rcases hv with ⟨hc, k, rfl⟩ | ⟨hc, rfl⟩
  · rw [hc] at hQ
    clear hrow
    repeat' first | simp (config := { maxSteps := 2000000 }) (disch := omega) only [go_sem, *, Try.results50] | (first | apply EvG_ndec | apply EvC_ndec | apply EvG_dec | apply EvC_dec | apply EvC_nbool | apply EvC_bool | apply EvG_nbool | apply EvG_bool) <;> intro _ | (first | apply EvH_ndec | apply EvH_dec | apply EvH_nbool | apply EvH_bool) <;> intro _ | refine EvK_draw (id := 14) (L := [(0, 1), (0, 2), (1, 2), (0, 3), (1, 3), (2, 3), (0, 4), (1, 4), (2, 4), (0, 5), (1, 5), (0, 6), (0, 7), (1, 7), (2, 7), (3, 7), (4, 7), (5, 7), (6, 7), (0, 8), (1, 8), (2, 8), (3, 8), (4, 8), (5, 8), (6, 8)]) (by kernel_rfl) (by kernel_rfl) ?_
  · rw [hc] at hQ
    have hsec := chk_secs (bg := 3) hc
    rw [← hsec] at hQ
    clear hsec
    repeat' first | simp (config := { maxSteps := 2000000 }) (disch := omega) only [go_sem, *, Try.results50] | (first | apply EvG_ndec | apply EvC_ndec | apply EvG_dec | apply EvC_dec | apply EvC_nbool | apply EvC_bool | apply EvG_nbool | apply EvG_bool) <;> intro _ | (first | apply EvH_ndec | apply EvH_dec | apply EvH_nbool | apply EvH_bool) <;> intro _ | refine EvK_draw (id := 14) (L := [(0, 1), (0, 2), (1, 2), (0, 3), (1, 3), (2, 3), (0, 4), (1, 4), (2, 4), (0, 5), (1, 5), (0, 6), (0, 7), (1, 7), (2, 7), (3, 7), (4, 7), (5, 7), (6, 7), (0, 8), (1, 8), (2, 8), (3, 8), (4, 8), (5, 8), (6, 8)]) (by kernel_rfl) (by kernel_rfl) ?_
    generalize hh3 : h2.set n2 _ = h3
    have e3 : h3.get n2 = some (.map (ments2 []) 0) := get_of_set hh3
    have hW3 : WfH h3 (n2 + 1) := by rw [← hh3]; exact hW2.set (by omega) (by omega)
    have k3 : Kept h h3 := by rw [← hh3]; exact Kept.set' hW (by omega) k2
    clear hh3 k2 hW2
    refine ind_loop (fun t m h' n' => ∃ (i : Nat) (sl : Value) (S : List Sec) (M : MI) (c : Nat) (T : TS), i ≤ E.length ∧ t = E.length - i ∧ m.n = 64 ∧ m.dfs = [] ∧ m.get 0 = .slice ba E.length bc ∧ m.get 1 = .int .u8 3 ∧ m.get 2 = .int .u8 4 ∧ m.get 3 = .func (.func 51) ⟨[]⟩ ⟨[]⟩ ∧ m.get 4 = .func (.func 52) ⟨[]⟩ ⟨[]⟩ ∧ m.get 14 = sl ∧ m.get 15 = .map (some n2) ∧ m.get 27 = .slice ba E.length bc ∧ m.get 28 = .int .i64 E.length ∧ m.get 29 = .int .i64 i ∧ WfH h' n' ∧ n2 + 1 ≤ n' ∧ Kept h h' ∧ h'.get n2 = some (.map (ments2 M) c) ∧ OwnSecs (n2 + 1) h' sl S ∧ S.length ≤ i ∧ S = (E.take i).foldl (secStep 3) [] ∧ PInv 3 T S M ∧ runs (prev E i) T (E.drop i) = true) E.length ?_ ?_
    · refine ⟨0, .slice none 0 0, [], [], 0, T0, by omega, by omega, ?_⟩
      have hpe : PInv 3 T0 [] [] := PInv.empty (by omega)
      have hru : runs (prev E 0) T0 (E.drop 0) = true := hc
      have hfo : ([] : List Sec) = (E.take 0).foldl (secStep 3) [] := rfl
      have how : OwnSecs (n2 + 1) h3 (.slice none 0 0) [] := .inl ⟨rfl, rfl⟩
      rw [hru, ← hfo]
      clear hru hfo hc
      simp (config := { maxSteps := 2000000 }) (disch := omega) only [go_sem, *]
      exact Nat.le_refl _
    · rintro t m h' n' ih ⟨i, sl, S, M, c, T, hi, rfl, m1, m2, m3, m4, m5, m6, m7, m8, m9, m10, m11, m12, q1, q2, q3, q4, q5, q6, q7, q8, q9⟩
      rcases Nat.lt_or_ge i E.length with hlt | hge
      · have e7 : (i : Int) < E.length := by omega
        rw [runs_at hlt] at q9
        have hfs := foldl_take (bg := 3) hlt
        rw [← q7] at hfs
        obtain ⟨b, rfl, hb0⟩ := hrow i hlt
        have hb := q3 _ _ hb0
        have hbN := hW.lt hb0
        have hpl : (evCs E).length = E.length * 4 := evCs_length E
        have hro4 := evCs_row hlt
        have hci : ((i + 1 : Nat) : Int) = (i : Int) + 1 := by omega
        obtain ⟨⟨st, th, kd, val⟩, hx⟩ : ∃ x, E[i] = x := ⟨_, rfl⟩
        rw [hx] at hro4 q9 hfs
        simp only [evC] at hro4
        simp only [Bool.and_eq_true] at q9
        obtain ⟨f1, -, f2, f3⟩ := q9
        have f1' := of_decide_eq_true f1
        simp only at f1'
        obtain ⟨g1, g2, g3, g4, g5⟩ := f1'
        have hst := ev_step (bg := 3) (by omega) ⟨g4, g5⟩ f2
        unfold secStep at hfs
        simp only at hfs
        unfold nextT at f3
        simp only at f3
        generalize rl kd (T th).1 (T th).2 val = w at hst f3 f2
        obtain ⟨wa, wb, wc⟩ := w
        simp only at hst f3
        clear f1 f2 hQ hrow hb0 hx hs hc q7 k3 e3 hW3
        have hS4 : (secCs S).length = S.length * 4 := secCs_length S
        by_cases hk : kd = 3
        · subst hk
          obtain ⟨ha, rfl⟩ := hst.1 rfl
          rw [if_pos rfl, q8.shut ha st] at hfs
          obtain ⟨M', c', hmu, hM⟩ := muB89 (r := n2) (x := th) (v := (S.length : Int)) (M := M) (c := c)
          have hP8 := q8.begin_ (st := st) (val := val) (p := (3, wb)) ha rfl hM
          clear hM q8 hst ha
          have hlen : (S ++ [(th, val, st, (-1 : Int))]).length = S.length + 1 := by simp
          rcases q5 with ⟨rfl, rfl⟩ | ⟨g, hgN, rfl, hgr⟩
          · have hl0 : ((([] : List Sec).length : Nat) : Int) = 0 := rfl
            rw [hl0] at hmu
            clear hl0
            repeat' first | simp (config := { maxSteps := 2000000 }) (disch := omega) only [go_sem, *, Try.results50, mu89] | (first | apply EvG_ndec | apply EvC_ndec | apply EvG_dec | apply EvC_dec | apply EvC_nbool | apply EvC_bool | apply EvG_nbool | apply EvG_bool) <;> intro _ | (first | apply EvH_ndec | apply EvH_dec | apply EvH_nbool | apply EvH_bool) <;> intro _ | refine EvK_draw (id := 14) (L := [(0, 1), (0, 2), (1, 2), (0, 3), (1, 3), (2, 3), (0, 4), (1, 4), (2, 4), (0, 5), (1, 5), (0, 6), (0, 7), (1, 7), (2, 7), (3, 7), (4, 7), (5, 7), (6, 7), (0, 8), (1, 8), (2, 8), (3, 8), (4, 8), (5, 8), (6, 8)]) (by kernel_rfl) (by kernel_rfl) ?_
            generalize hh5 : PT.set (PT.set (PT.set h' n' _) n' _) n2 _ = h5
            have b5 : h5.get n' = some (.cells (PT.ofList .leaf 0 [.int .i64 st, .int .i64 th, .int .u8 3, .int .u64 val]) false) := by rw [← hh5]; simp (disch := omega) only [heap_ne, heap_same]
            have e5 : h5.get n2 = some (.map (ments2 M') c') := get_of_set hh5
            have k5 : Kept h h5 := by rw [← hh5]; exact Kept.set' hW (by omega) (Kept.set' hW (by omega) (Kept.set' hW (by omega) q3))
            have w5 : WfH h5 (n' + 1) := by rw [← hh5]; exact WfH.set' (by omega) (WfH.set' (by omega) (q1.set (by omega) (by omega)))
            clear hh5 q1 q3 q4 hb hmu
            refine EvQ_call ?_ ?_ (by rw [hP, hO]; exact (begWaits st th 3 val _ _).wf w5) ?_
            · simp (config := { maxSteps := 2000000 }) (disch := omega) only [go_sem, *]
            · simp (config := { maxSteps := 2000000 }) (disch := omega) only [go_sem, *]
            rintro v h6 n6 ⟨⟨rfl, k6⟩, hn6, w6⟩
            have e6 := (k6 n2 (by omega)).trans e5
            have kk6 : Kept h h6 := fun i B e => by
              have := hW.lt e
              rw [k6 i (by omega)]; exact k5 i B e
            clear k5 k6 w5 e5 b5
            repeat' first | simp (config := { maxSteps := 2000000 }) (disch := omega) only [go_sem, *, Try.results50] | (first | apply EvG_ndec | apply EvC_ndec | apply EvG_dec | apply EvC_dec | apply EvC_nbool | apply EvC_bool | apply EvG_nbool | apply EvG_bool) <;> intro _ | (first | apply EvH_ndec | apply EvH_dec | apply EvH_nbool | apply EvH_bool) <;> intro _ | refine EvK_draw (id := 14) (L := [(0, 1), (0, 2), (1, 2), (0, 3), (1, 3), (2, 3), (0, 4), (1, 4), (2, 4), (0, 5), (1, 5), (0, 6), (0, 7), (1, 7), (2, 7), (3, 7), (4, 7), (5, 7), (6, 7), (0, 8), (1, 8), (2, 8), (3, 8), (4, 8), (5, 8), (6, 8)]) (by kernel_rfl) (by kernel_rfl) ?_
            refine ih (E.length - (i + 1)) _ _ _ (by omega) ⟨i + 1, .slice (some ⟨n6 + 1, 0, none⟩) 1 (capInf + 4), [(th, val, st, -1)], M', c', updT T th (3, wb), by omega, rfl, ?_⟩
            rw [hci]
            clear ih
            simp (config := { maxSteps := 2000000 }) (disch := omega) only [go_sem, *]
            refine ⟨WfH.set' (by omega) (w6.set (by omega) (by omega)), by omega, Kept.set' hW (by omega) (Kept.set' hW (by omega) kk6), .inr ⟨n6 + 1, by omega, rfl, heap_same⟩, ?_⟩
            first | exact ⟨hfs.symm, hP8⟩ | exact hfs.symm
          · have hgn := q1.lt hgr
            have htk : (secCs S).take (S.length * 4) = secCs S := by rw [← hS4]; exact List.take_length
            have hbq : (S.length * 4).beq (S.length * 4) = true := Nat.beq_refl _
            have hble : (S.length + 1).ble 1048576 = true := Nat.ble_eq_true_of_le (by omega)
            have hsn : secCs S ++ [.int .i64 th, .int .u64 val, .int .i64 st, .int .i64 (-1)] = secCs (S ++ [(th, val, st, -1)]) := (secCs_snoc S (th, val, st, -1)).symm
            repeat' first | simp (config := { maxSteps := 2000000 }) (disch := omega) only [go_sem, *, Try.results50, mu89] | (first | apply EvG_ndec | apply EvC_ndec | apply EvG_dec | apply EvC_dec | apply EvC_nbool | apply EvC_bool | apply EvG_nbool | apply EvG_bool) <;> intro _ | (first | apply EvH_ndec | apply EvH_dec | apply EvH_nbool | apply EvH_bool) <;> intro _ | refine EvK_draw (id := 14) (L := [(0, 1), (0, 2), (1, 2), (0, 3), (1, 3), (2, 3), (0, 4), (1, 4), (2, 4), (0, 5), (1, 5), (0, 6), (0, 7), (1, 7), (2, 7), (3, 7), (4, 7), (5, 7), (6, 7), (0, 8), (1, 8), (2, 8), (3, 8), (4, 8), (5, 8), (6, 8)]) (by kernel_rfl) (by kernel_rfl) ?_
            generalize hh5 : PT.set (PT.set (PT.set h' n' _) n' _) n2 _ = h5
            have b5 : h5.get n' = some (.cells (PT.ofList .leaf 0 [.int .i64 st, .int .i64 th, .int .u8 3, .int .u64 val]) false) := by rw [← hh5]; simp (disch := omega) only [heap_ne, heap_same]
            have e5 : h5.get n2 = some (.map (ments2 M') c') := get_of_set hh5
            have k5 : Kept h h5 := by rw [← hh5]; exact Kept.set' hW (by omega) (Kept.set' hW (by omega) (Kept.set' hW (by omega) q3))
            have w5 : WfH h5 (n' + 1) := by rw [← hh5]; exact WfH.set' (by omega) (WfH.set' (by omega) (q1.set (by omega) (by omega)))
            have g5 : h5.get g = some (.cells (PT.ofList .leaf 0 (secCs S)) false) := by rw [← hh5]; simp (disch := omega) only [heap_ne]; exact hgr
            clear hh5 q1 q3 q4 hb hmu hgr
            refine EvQ_call ?_ ?_ (by rw [hP, hO]; exact (begWaits st th 3 val _ _).wf w5) ?_
            · simp (config := { maxSteps := 2000000 }) (disch := omega) only [go_sem, *]
            · simp (config := { maxSteps := 2000000 }) (disch := omega) only [go_sem, *]
            rintro v h6 n6 ⟨⟨rfl, k6⟩, hn6, w6⟩
            have e6 := (k6 n2 (by omega)).trans e5
            have g6 := (k6 g (by omega)).trans g5
            have kk6 : Kept h h6 := fun i B e => by
              have := hW.lt e
              rw [k6 i (by omega)]; exact k5 i B e
            clear k5 k6 w5 e5 b5 g5
            repeat' first | simp (config := { maxSteps := 2000000 }) (disch := omega) only [go_sem, *, Try.results50] | (first | apply EvG_ndec | apply EvC_ndec | apply EvG_dec | apply EvC_dec | apply EvC_nbool | apply EvC_bool | apply EvG_nbool | apply EvG_bool) <;> intro _ | (first | apply EvH_ndec | apply EvH_dec | apply EvH_nbool | apply EvH_bool) <;> intro _ | refine EvK_draw (id := 14) (L := [(0, 1), (0, 2), (1, 2), (0, 3), (1, 3), (2, 3), (0, 4), (1, 4), (2, 4), (0, 5), (1, 5), (0, 6), (0, 7), (1, 7), (2, 7), (3, 7), (4, 7), (5, 7), (6, 7), (0, 8), (1, 8), (2, 8), (3, 8), (4, 8), (5, 8), (6, 8)]) (by kernel_rfl) (by kernel_rfl) ?_
            refine ih (E.length - (i + 1)) _ _ _ (by omega) ⟨i + 1, .slice (some ⟨n6 + 1, 0, none⟩) (S.length + 1) (capInf + 4), S ++ [(th, val, st, -1)], M', c', updT T th (3, wb), by omega, rfl, ?_⟩
            rw [hci]
            clear ih
            simp (config := { maxSteps := 2000000 }) (disch := omega) only [go_sem, *]
            refine ⟨WfH.set' (by omega) (WfH.set' (by omega) (w6.set (by omega) (by omega))), by omega, Kept.set' hW (by omega) (Kept.set' hW (by omega) (Kept.set' hW (by omega) kk6)), .inr ⟨n6 + 1, by omega, by rw [hlen], heap_same⟩, ?_⟩
            first | exact ⟨hfs.symm, hP8⟩ | exact hfs.symm
        · by_cases hk2 : kd = 4
          · subst hk2
            obtain ⟨ha, hb2⟩ := hst.2.1 rfl
            rw [if_neg hk, List.append_nil] at hfs
            obtain ⟨k, ⟨sa, sb, sc, sd⟩, hk1, hv, hmp, hP8⟩ := q8.end_ (st := st) (p := (wa, wb)) ha hb2 (by omega)
            rw [hmp] at hfs
            simp only at hfs hP8
            have hkl := (List.getElem?_eq_some_iff.1 hk1).1
            have hlk := fun c => lkB89 (c := c) hv
            have heg := endG_eq (st := st) hk1
            have hki : (k : Int) < S.length := by omega
            clear hst q8 hmp hv hk1 ha hb2 hk
            rcases q5 with ⟨rfl, rfl⟩ | ⟨g, hgN, rfl, hgr⟩
            · exact absurd hkl (by simp)
            · have hgn := q1.lt hgr
              have hlen : (S.set k (sa, sb, sc, st)).length = S.length := List.length_set
              repeat' first | simp (config := { maxSteps := 2000000 }) (disch := omega) only [go_sem, *, Try.results50, lk89, endS_eq, setP] | (first | apply EvG_ndec | apply EvC_ndec | apply EvG_dec | apply EvC_dec | apply EvC_nbool | apply EvC_bool | apply EvG_nbool | apply EvG_bool) <;> intro _ | (first | apply EvH_ndec | apply EvH_dec | apply EvH_nbool | apply EvH_bool) <;> intro _ | refine EvK_draw (id := 14) (L := [(0, 1), (0, 2), (1, 2), (0, 3), (1, 3), (2, 3), (0, 4), (1, 4), (2, 4), (0, 5), (1, 5), (0, 6), (0, 7), (1, 7), (2, 7), (3, 7), (4, 7), (5, 7), (6, 7), (0, 8), (1, 8), (2, 8), (3, 8), (4, 8), (5, 8), (6, 8)]) (by kernel_rfl) (by kernel_rfl) ?_
              refine ih (E.length - (i + 1)) _ _ _ (by omega) ⟨i + 1, .slice (some ⟨g, 0, none⟩) S.length (capInf + 4), S.set k (sa, sb, sc, st), M, c, updT T th (wa, wb), by omega, rfl, ?_⟩
              rw [hci]
              clear ih
              simp (config := { maxSteps := 2000000 }) (disch := omega) only [go_sem, *]
              refine ⟨WfH.set' (by omega) (WfH.set' (by omega) (q1.set (by omega) (by omega))), by omega, Kept.set' hW (by omega) (Kept.set' hW (by omega) (Kept.set' hW (by omega) q3)), .inr ⟨g, hgN, by rw [hlen], heap_same⟩, by omega, hfs.symm⟩
          · have hst2 := hst.2.2 hk (by omega)
            rw [if_neg hk, List.append_nil, q8.shut hst2.1 st] at hfs
            have hP8 := q8.other (p := (wa, wb)) hst2.1 hst2.2
            clear hst hst2 q8
            repeat' first | simp (config := { maxSteps := 2000000 }) (disch := omega) only [go_sem, *, Try.results50] | (first | apply EvG_ndec | apply EvC_ndec | apply EvG_dec | apply EvC_dec | apply EvC_nbool | apply EvC_bool | apply EvG_nbool | apply EvG_bool) <;> intro _ | (first | apply EvH_ndec | apply EvH_dec | apply EvH_nbool | apply EvH_bool) <;> intro _ | refine EvK_draw (id := 14) (L := [(0, 1), (0, 2), (1, 2), (0, 3), (1, 3), (2, 3), (0, 4), (1, 4), (2, 4), (0, 5), (1, 5), (0, 6), (0, 7), (1, 7), (2, 7), (3, 7), (4, 7), (5, 7), (6, 7), (0, 8), (1, 8), (2, 8), (3, 8), (4, 8), (5, 8), (6, 8)]) (by kernel_rfl) (by kernel_rfl) ?_
            refine ih (E.length - (i + 1)) _ _ _ (by omega) ⟨i + 1, sl, S, M, c, updT T th (wa, wb), by omega, rfl, ?_⟩
            have h5 : OwnSecs (n2 + 1) (PT.set (PT.set h' n' (some (.cells (PT.ofList .leaf 0 [.int .i64 0, .int .i64 0, .int .u8 0, .int .u64 0]) false))) n' (some (.cells (PT.ofList .leaf 0 [.int .i64 st, .int .i64 th, .int .u8 kd, .int .u64 val]) false))) sl S := by
              rcases q5 with q | ⟨g, g1, g2, g3⟩
              · exact .inl q
              · have := q1.lt g3
                exact .inr ⟨g, g1, g2, by simp (disch := omega) only [heap_ne]; exact g3⟩
            rw [hci]
            clear ih q5
            simp (config := { maxSteps := 2000000 }) (disch := omega) only [go_sem, *]
            exact ⟨WfH.set' (by omega) (q1.set (by omega) (by omega)), by omega, Kept.set' hW (by omega) (Kept.set' hW (by omega) q3), by omega, hfs.symm⟩
      · have e7 : ¬ (i : Int) < E.length := by omega
        obtain rfl : i = E.length := by omega
        rw [List.take_length] at q7
        rw [← q7] at hQ
        clear ih hrow hs hc q7 q9 q8
        repeat' first | simp (config := { maxSteps := 2000000 }) (disch := omega) only [go_sem, *, Try.results50] | (first | apply EvG_ndec | apply EvC_ndec | apply EvG_dec | apply EvC_dec | apply EvC_nbool | apply EvC_bool | apply EvG_nbool | apply EvG_bool) <;> intro _ | (first | apply EvH_ndec | apply EvH_dec | apply EvH_nbool | apply EvH_bool) <;> intro _ | refine EvK_draw (id := 14) (L := [(0, 1), (0, 2), (1, 2), (0, 3), (1, 3), (2, 3), (0, 4), (1, 4), (2, 4), (0, 5), (1, 5), (0, 6), (0, 7), (1, 7), (2, 7), (3, 7), (4, 7), (5, 7), (6, 7), (0, 8), (1, 8), (2, 8), (3, 8), (4, 8), (5, 8), (6, 8)]) (by kernel_rfl) (by kernel_rfl) ?_
        exact ⟨_, rfl, q5.is⟩
theorem begSections {O : Over} (st th kd val : Int) (h : PT ABlk) (N : Nat) : EvB Try.prog O 48 [.agg ⟨[.int .i64 st, .int .i64 th, .int .u8 kd, .int .u64 val]⟩] h N fun v h' n' => v = .agg ⟨[.int .i64 th, .int .u64 val, .int .i64 st, .int .i64 (-1)]⟩ ∧ ∀ i, i < N → h'.get i = h.get i := by
  refine EvB_run (N := 10) Try.func48 rfl rfl fun z hP hO hro hN hQ => ?_
  repeat' first | simp (config := { maxSteps := 2000000 }) (disch := omega) only [go_sem, *, Try.results48] | (first | apply EvG_ndec | apply EvC_ndec | apply EvG_dec | apply EvC_dec | apply EvC_nbool | apply EvC_bool | apply EvG_nbool | apply EvG_bool) <;> intro _
  exact fun i hi => by simp (disch := omega) only [heap_ne]
set_option maxRecDepth 100000 in
set_option maxHeartbeats 2000000 in
theorem pairsSections {O : Over} (hO2 : Follows O) (o57 : O 71 = fun _ => none) (o47 : O 58 = fun _ => none) (oc : O 48 = fun _ => none) (oe : O 49 = endS) (E : List Ev) (s : Value) (hn : E.length ≤ 100000) (h : PT ABlk) (N : Nat) (hW : WfH h N) (hs : IsEvs h s E) :
    EvB Try.prog O 47 [s, .int .u8 1, .int .u8 2, .func (.func 48) ⟨[]⟩ ⟨[]⟩, .func (.func 49) ⟨[]⟩ ⟨[]⟩] h N fun v h' n' => SecsV 1 E v h' ∧ Kept h h' := by
  obtain ⟨ba, bc, rfl, hrow⟩ := hs.len
  unfold SecsV
  refine EvB_run (N := 64) Try.func47 rfl rfl fun z hP hO hro hN hQ => ?_
  repeat' first | simp (config := { maxSteps := 2000000 }) (disch := omega) only [go_sem, *, Try.results47] | (first | apply EvG_ndec | apply EvC_ndec | apply EvG_dec | apply EvC_dec | apply EvC_nbool | apply EvC_bool | apply EvG_nbool | apply EvG_bool) <;> intro _ | (first | apply EvH_ndec | apply EvH_dec | apply EvH_nbool | apply EvH_bool) <;> intro _ | refine EvK_draw (id := 14) (L := [(0, 1), (0, 2), (1, 2), (0, 3), (1, 3), (2, 3), (0, 4), (1, 4), (2, 4), (0, 5), (1, 5), (0, 6), (0, 7), (1, 7), (2, 7), (3, 7), (4, 7), (5, 7), (6, 7), (0, 8), (1, 8), (2, 8), (3, 8), (4, 8), (5, 8), (6, 8)]) (by kernel_rfl) (by kernel_rfl) ?_
  refine EvQ_call ?_ ?_ (by rw [hP, hO]; exact (checkB hO2 o57 E _ hn _ _ hW hs).wf hW) ?_
  · simp (config := { maxSteps := 2000000 }) (disch := omega) only [go_sem, *]
  · simp (config := { maxSteps := 2000000 }) (disch := omega) only [go_sem, *]
  rintro v h2 n2 ⟨⟨hv, k2⟩, hn2, hW2⟩
  rcases hv with ⟨hc, k, rfl⟩ | ⟨hc, rfl⟩
  · rw [hc] at hQ
    clear hrow
    repeat' first | simp (config := { maxSteps := 2000000 }) (disch := omega) only [go_sem, *, Try.results47] | (first | apply EvG_ndec | apply EvC_ndec | apply EvG_dec | apply EvC_dec | apply EvC_nbool | apply EvC_bool | apply EvG_nbool | apply EvG_bool) <;> intro _ | (first | apply EvH_ndec | apply EvH_dec | apply EvH_nbool | apply EvH_bool) <;> intro _ | refine EvK_draw (id := 14) (L := [(0, 1), (0, 2), (1, 2), (0, 3), (1, 3), (2, 3), (0, 4), (1, 4), (2, 4), (0, 5), (1, 5), (0, 6), (0, 7), (1, 7), (2, 7), (3, 7), (4, 7), (5, 7), (6, 7), (0, 8), (1, 8), (2, 8), (3, 8), (4, 8), (5, 8), (6, 8)]) (by kernel_rfl) (by kernel_rfl) ?_
  · rw [hc] at hQ
    have hsec := chk_secs (bg := 1) hc
    rw [← hsec] at hQ
    clear hsec
    repeat' first | simp (config := { maxSteps := 2000000 }) (disch := omega) only [go_sem, *, Try.results47] | (first | apply EvG_ndec | apply EvC_ndec | apply EvG_dec | apply EvC_dec | apply EvC_nbool | apply EvC_bool | apply EvG_nbool | apply EvG_bool) <;> intro _ | (first | apply EvH_ndec | apply EvH_dec | apply EvH_nbool | apply EvH_bool) <;> intro _ | refine EvK_draw (id := 14) (L := [(0, 1), (0, 2), (1, 2), (0, 3), (1, 3), (2, 3), (0, 4), (1, 4), (2, 4), (0, 5), (1, 5), (0, 6), (0, 7), (1, 7), (2, 7), (3, 7), (4, 7), (5, 7), (6, 7), (0, 8), (1, 8), (2, 8), (3, 8), (4, 8), (5, 8), (6, 8)]) (by kernel_rfl) (by kernel_rfl) ?_
    generalize hh3 : h2.set n2 _ = h3
    have e3 : h3.get n2 = some (.map (ments2 []) 0) := get_of_set hh3
    have hW3 : WfH h3 (n2 + 1) := by rw [← hh3]; exact hW2.set (by omega) (by omega)
    have k3 : Kept h h3 := by rw [← hh3]; exact Kept.set' hW (by omega) k2
    clear hh3 k2 hW2
    refine ind_loop (fun t m h' n' => ∃ (i : Nat) (sl : Value) (S : List Sec) (M : MI) (c : Nat) (T : TS), i ≤ E.length ∧ t = E.length - i ∧ m.n = 64 ∧ m.dfs = [] ∧ m.get 0 = .slice ba E.length bc ∧ m.get 1 = .int .u8 1 ∧ m.get 2 = .int .u8 2 ∧ m.get 3 = .func (.func 48) ⟨[]⟩ ⟨[]⟩ ∧ m.get 4 = .func (.func 49) ⟨[]⟩ ⟨[]⟩ ∧ m.get 14 = sl ∧ m.get 15 = .map (some n2) ∧ m.get 27 = .slice ba E.length bc ∧ m.get 28 = .int .i64 E.length ∧ m.get 29 = .int .i64 i ∧ WfH h' n' ∧ n2 + 1 ≤ n' ∧ Kept h h' ∧ h'.get n2 = some (.map (ments2 M) c) ∧ OwnSecs (n2 + 1) h' sl S ∧ S.length ≤ i ∧ S = (E.take i).foldl (secStep 1) [] ∧ PInv 1 T S M ∧ runs (prev E i) T (E.drop i) = true) E.length ?_ ?_
    · refine ⟨0, .slice none 0 0, [], [], 0, T0, by omega, by omega, ?_⟩
      have hpe : PInv 1 T0 [] [] := PInv.empty (by omega)
      have hru : runs (prev E 0) T0 (E.drop 0) = true := hc
      have hfo : ([] : List Sec) = (E.take 0).foldl (secStep 1) [] := rfl
      have how : OwnSecs (n2 + 1) h3 (.slice none 0 0) [] := .inl ⟨rfl, rfl⟩
      rw [hru, ← hfo]
      clear hru hfo hc
      simp (config := { maxSteps := 2000000 }) (disch := omega) only [go_sem, *]
      exact Nat.le_refl _
    · rintro t m h' n' ih ⟨i, sl, S, M, c, T, hi, rfl, m1, m2, m3, m4, m5, m6, m7, m8, m9, m10, m11, m12, q1, q2, q3, q4, q5, q6, q7, q8, q9⟩
      rcases Nat.lt_or_ge i E.length with hlt | hge
      · have e7 : (i : Int) < E.length := by omega
        rw [runs_at hlt] at q9
        have hfs := foldl_take (bg := 1) hlt
        rw [← q7] at hfs
        obtain ⟨b, rfl, hb0⟩ := hrow i hlt
        have hb := q3 _ _ hb0
        have hbN := hW.lt hb0
        have hpl : (evCs E).length = E.length * 4 := evCs_length E
        have hro4 := evCs_row hlt
        have hci : ((i + 1 : Nat) : Int) = (i : Int) + 1 := by omega
        obtain ⟨⟨st, th, kd, val⟩, hx⟩ : ∃ x, E[i] = x := ⟨_, rfl⟩
        rw [hx] at hro4 q9 hfs
        simp only [evC] at hro4
        simp only [Bool.and_eq_true] at q9
        obtain ⟨f1, -, f2, f3⟩ := q9
        have f1' := of_decide_eq_true f1
        simp only at f1'
        obtain ⟨g1, g2, g3, g4, g5⟩ := f1'
        have hst := ev_step (bg := 1) (by omega) ⟨g4, g5⟩ f2
        unfold secStep at hfs
        simp only at hfs
        unfold nextT at f3
        simp only at f3
        generalize rl kd (T th).1 (T th).2 val = w at hst f3 f2
        obtain ⟨wa, wb, wc⟩ := w
        simp only at hst f3
        clear f1 f2 hQ hrow hb0 hx hs hc q7 k3 e3 hW3
        have hS4 : (secCs S).length = S.length * 4 := secCs_length S
        by_cases hk : kd = 1
        · subst hk
          obtain ⟨ha, rfl⟩ := hst.1 rfl
          rw [if_pos rfl, q8.shut ha st] at hfs
          obtain ⟨M', c', hmu, hM⟩ := muB89 (r := n2) (x := th) (v := (S.length : Int)) (M := M) (c := c)
          have hP8 := q8.begin_ (st := st) (val := val) (p := (1, wb)) ha rfl hM
          clear hM q8 hst ha
          have hlen : (S ++ [(th, val, st, (-1 : Int))]).length = S.length + 1 := by simp
          rcases q5 with ⟨rfl, rfl⟩ | ⟨g, hgN, rfl, hgr⟩
          · have hl0 : ((([] : List Sec).length : Nat) : Int) = 0 := rfl
            rw [hl0] at hmu
            clear hl0
            repeat' first | simp (config := { maxSteps := 2000000 }) (disch := omega) only [go_sem, *, Try.results47, mu89] | (first | apply EvG_ndec | apply EvC_ndec | apply EvG_dec | apply EvC_dec | apply EvC_nbool | apply EvC_bool | apply EvG_nbool | apply EvG_bool) <;> intro _ | (first | apply EvH_ndec | apply EvH_dec | apply EvH_nbool | apply EvH_bool) <;> intro _ | refine EvK_draw (id := 14) (L := [(0, 1), (0, 2), (1, 2), (0, 3), (1, 3), (2, 3), (0, 4), (1, 4), (2, 4), (0, 5), (1, 5), (0, 6), (0, 7), (1, 7), (2, 7), (3, 7), (4, 7), (5, 7), (6, 7), (0, 8), (1, 8), (2, 8), (3, 8), (4, 8), (5, 8), (6, 8)]) (by kernel_rfl) (by kernel_rfl) ?_
            generalize hh5 : PT.set (PT.set (PT.set h' n' _) n' _) n2 _ = h5
            have b5 : h5.get n' = some (.cells (PT.ofList .leaf 0 [.int .i64 st, .int .i64 th, .int .u8 1, .int .u64 val]) false) := by rw [← hh5]; simp (disch := omega) only [heap_ne, heap_same]
            have e5 : h5.get n2 = some (.map (ments2 M') c') := get_of_set hh5
            have k5 : Kept h h5 := by rw [← hh5]; exact Kept.set' hW (by omega) (Kept.set' hW (by omega) (Kept.set' hW (by omega) q3))
            have w5 : WfH h5 (n' + 1) := by rw [← hh5]; exact WfH.set' (by omega) (WfH.set' (by omega) (q1.set (by omega) (by omega)))
            clear hh5 q1 q3 q4 hb hmu
            refine EvQ_call ?_ ?_ (by rw [hP, hO]; exact (begSections st th 1 val _ _).wf w5) ?_
            · simp (config := { maxSteps := 2000000 }) (disch := omega) only [go_sem, *]
            · simp (config := { maxSteps := 2000000 }) (disch := omega) only [go_sem, *]
            rintro v h6 n6 ⟨⟨rfl, k6⟩, hn6, w6⟩
            have e6 := (k6 n2 (by omega)).trans e5
            have kk6 : Kept h h6 := fun i B e => by
              have := hW.lt e
              rw [k6 i (by omega)]; exact k5 i B e
            clear k5 k6 w5 e5 b5
            repeat' first | simp (config := { maxSteps := 2000000 }) (disch := omega) only [go_sem, *, Try.results47] | (first | apply EvG_ndec | apply EvC_ndec | apply EvG_dec | apply EvC_dec | apply EvC_nbool | apply EvC_bool | apply EvG_nbool | apply EvG_bool) <;> intro _ | (first | apply EvH_ndec | apply EvH_dec | apply EvH_nbool | apply EvH_bool) <;> intro _ | refine EvK_draw (id := 14) (L := [(0, 1), (0, 2), (1, 2), (0, 3), (1, 3), (2, 3), (0, 4), (1, 4), (2, 4), (0, 5), (1, 5), (0, 6), (0, 7), (1, 7), (2, 7), (3, 7), (4, 7), (5, 7), (6, 7), (0, 8), (1, 8), (2, 8), (3, 8), (4, 8), (5, 8), (6, 8)]) (by kernel_rfl) (by kernel_rfl) ?_
            refine ih (E.length - (i + 1)) _ _ _ (by omega) ⟨i + 1, .slice (some ⟨n6 + 1, 0, none⟩) 1 (capInf + 4), [(th, val, st, -1)], M', c', updT T th (1, wb), by omega, rfl, ?_⟩
            rw [hci]
            clear ih
            simp (config := { maxSteps := 2000000 }) (disch := omega) only [go_sem, *]
            refine ⟨WfH.set' (by omega) (w6.set (by omega) (by omega)), by omega, Kept.set' hW (by omega) (Kept.set' hW (by omega) kk6), .inr ⟨n6 + 1, by omega, rfl, heap_same⟩, ?_⟩
            first | exact ⟨hfs.symm, hP8⟩ | exact hfs.symm
          · have hgn := q1.lt hgr
            have htk : (secCs S).take (S.length * 4) = secCs S := by rw [← hS4]; exact List.take_length
            have hbq : (S.length * 4).beq (S.length * 4) = true := Nat.beq_refl _
            have hble : (S.length + 1).ble 1048576 = true := Nat.ble_eq_true_of_le (by omega)
            have hsn : secCs S ++ [.int .i64 th, .int .u64 val, .int .i64 st, .int .i64 (-1)] = secCs (S ++ [(th, val, st, -1)]) := (secCs_snoc S (th, val, st, -1)).symm
            repeat' first | simp (config := { maxSteps := 2000000 }) (disch := omega) only [go_sem, *, Try.results47, mu89] | (first | apply EvG_ndec | apply EvC_ndec | apply EvG_dec | apply EvC_dec | apply EvC_nbool | apply EvC_bool | apply EvG_nbool | apply EvG_bool) <;> intro _ | (first | apply EvH_ndec | apply EvH_dec | apply EvH_nbool | apply EvH_bool) <;> intro _ | refine EvK_draw (id := 14) (L := [(0, 1), (0, 2), (1, 2), (0, 3), (1, 3), (2, 3), (0, 4), (1, 4), (2, 4), (0, 5), (1, 5), (0, 6), (0, 7), (1, 7), (2, 7), (3, 7), (4, 7), (5, 7), (6, 7), (0, 8), (1, 8), (2, 8), (3, 8), (4, 8), (5, 8), (6, 8)]) (by kernel_rfl) (by kernel_rfl) ?_
            generalize hh5 : PT.set (PT.set (PT.set h' n' _) n' _) n2 _ = h5
            have b5 : h5.get n' = some (.cells (PT.ofList .leaf 0 [.int .i64 st, .int .i64 th, .int .u8 1, .int .u64 val]) false) := by rw [← hh5]; simp (disch := omega) only [heap_ne, heap_same]
            have e5 : h5.get n2 = some (.map (ments2 M') c') := get_of_set hh5
            have k5 : Kept h h5 := by rw [← hh5]; exact Kept.set' hW (by omega) (Kept.set' hW (by omega) (Kept.set' hW (by omega) q3))
            have w5 : WfH h5 (n' + 1) := by rw [← hh5]; exact WfH.set' (by omega) (WfH.set' (by omega) (q1.set (by omega) (by omega)))
            have g5 : h5.get g = some (.cells (PT.ofList .leaf 0 (secCs S)) false) := by rw [← hh5]; simp (disch := omega) only [heap_ne]; exact hgr
            clear hh5 q1 q3 q4 hb hmu hgr
            refine EvQ_call ?_ ?_ (by rw [hP, hO]; exact (begSections st th 1 val _ _).wf w5) ?_
            · simp (config := { maxSteps := 2000000 }) (disch := omega) only [go_sem, *]
            · simp (config := { maxSteps := 2000000 }) (disch := omega) only [go_sem, *]
            rintro v h6 n6 ⟨⟨rfl, k6⟩, hn6, w6⟩
            have e6 := (k6 n2 (by omega)).trans e5
            have g6 := (k6 g (by omega)).trans g5
            have kk6 : Kept h h6 := fun i B e => by
              have := hW.lt e
              rw [k6 i (by omega)]; exact k5 i B e
            clear k5 k6 w5 e5 b5 g5
            repeat' first | simp (config := { maxSteps := 2000000 }) (disch := omega) only [go_sem, *, Try.results47] | (first | apply EvG_ndec | apply EvC_ndec | apply EvG_dec | apply EvC_dec | apply EvC_nbool | apply EvC_bool | apply EvG_nbool | apply EvG_bool) <;> intro _ | (first | apply EvH_ndec | apply EvH_dec | apply EvH_nbool | apply EvH_bool) <;> intro _ | refine EvK_draw (id := 14) (L := [(0, 1), (0, 2), (1, 2), (0, 3), (1, 3), (2, 3), (0, 4), (1, 4), (2, 4), (0, 5), (1, 5), (0, 6), (0, 7), (1, 7), (2, 7), (3, 7), (4, 7), (5, 7), (6, 7), (0, 8), (1, 8), (2, 8), (3, 8), (4, 8), (5, 8), (6, 8)]) (by kernel_rfl) (by kernel_rfl) ?_
            refine ih (E.length - (i + 1)) _ _ _ (by omega) ⟨i + 1, .slice (some ⟨n6 + 1, 0, none⟩) (S.length + 1) (capInf + 4), S ++ [(th, val, st, -1)], M', c', updT T th (1, wb), by omega, rfl, ?_⟩
            rw [hci]
            clear ih
            simp (config := { maxSteps := 2000000 }) (disch := omega) only [go_sem, *]
            refine ⟨WfH.set' (by omega) (WfH.set' (by omega) (w6.set (by omega) (by omega))), by omega, Kept.set' hW (by omega) (Kept.set' hW (by omega) (Kept.set' hW (by omega) kk6)), .inr ⟨n6 + 1, by omega, by rw [hlen], heap_same⟩, ?_⟩
            first | exact ⟨hfs.symm, hP8⟩ | exact hfs.symm
        · by_cases hk2 : kd = 2
          · subst hk2
            obtain ⟨ha, hb2⟩ := hst.2.1 rfl
            rw [if_neg hk, List.append_nil] at hfs
            obtain ⟨k, ⟨sa, sb, sc, sd⟩, hk1, hv, hmp, hP8⟩ := q8.end_ (st := st) (p := (wa, wb)) ha hb2 (by omega)
            rw [hmp] at hfs
            simp only at hfs hP8
            have hkl := (List.getElem?_eq_some_iff.1 hk1).1
            have hlk := fun c => lkB89 (c := c) hv
            have heg := endG_eq (st := st) hk1
            have hki : (k : Int) < S.length := by omega
            clear hst q8 hmp hv hk1 ha hb2 hk
            rcases q5 with ⟨rfl, rfl⟩ | ⟨g, hgN, rfl, hgr⟩
            · exact absurd hkl (by simp)
            · have hgn := q1.lt hgr
              have hlen : (S.set k (sa, sb, sc, st)).length = S.length := List.length_set
              repeat' first | simp (config := { maxSteps := 2000000 }) (disch := omega) only [go_sem, *, Try.results47, lk89, endS_eq, setP] | (first | apply EvG_ndec | apply EvC_ndec | apply EvG_dec | apply EvC_dec | apply EvC_nbool | apply EvC_bool | apply EvG_nbool | apply EvG_bool) <;> intro _ | (first | apply EvH_ndec | apply EvH_dec | apply EvH_nbool | apply EvH_bool) <;> intro _ | refine EvK_draw (id := 14) (L := [(0, 1), (0, 2), (1, 2), (0, 3), (1, 3), (2, 3), (0, 4), (1, 4), (2, 4), (0, 5), (1, 5), (0, 6), (0, 7), (1, 7), (2, 7), (3, 7), (4, 7), (5, 7), (6, 7), (0, 8), (1, 8), (2, 8), (3, 8), (4, 8), (5, 8), (6, 8)]) (by kernel_rfl) (by kernel_rfl) ?_
              refine ih (E.length - (i + 1)) _ _ _ (by omega) ⟨i + 1, .slice (some ⟨g, 0, none⟩) S.length (capInf + 4), S.set k (sa, sb, sc, st), M, c, updT T th (wa, wb), by omega, rfl, ?_⟩
              rw [hci]
              clear ih
              simp (config := { maxSteps := 2000000 }) (disch := omega) only [go_sem, *]
              refine ⟨WfH.set' (by omega) (WfH.set' (by omega) (q1.set (by omega) (by omega))), by omega, Kept.set' hW (by omega) (Kept.set' hW (by omega) (Kept.set' hW (by omega) q3)), .inr ⟨g, hgN, by rw [hlen], heap_same⟩, by omega, hfs.symm⟩
          · have hst2 := hst.2.2 hk (by omega)
            rw [if_neg hk, List.append_nil, q8.shut hst2.1 st] at hfs
            have hP8 := q8.other (p := (wa, wb)) hst2.1 hst2.2
            clear hst hst2 q8
            repeat' first | simp (config := { maxSteps := 2000000 }) (disch := omega) only [go_sem, *, Try.results47] | (first | apply EvG_ndec | apply EvC_ndec | apply EvG_dec | apply EvC_dec | apply EvC_nbool | apply EvC_bool | apply EvG_nbool | apply EvG_bool) <;> intro _ | (first | apply EvH_ndec | apply EvH_dec | apply EvH_nbool | apply EvH_bool) <;> intro _ | refine EvK_draw (id := 14) (L := [(0, 1), (0, 2), (1, 2), (0, 3), (1, 3), (2, 3), (0, 4), (1, 4), (2, 4), (0, 5), (1, 5), (0, 6), (0, 7), (1, 7), (2, 7), (3, 7), (4, 7), (5, 7), (6, 7), (0, 8), (1, 8), (2, 8), (3, 8), (4, 8), (5, 8), (6, 8)]) (by kernel_rfl) (by kernel_rfl) ?_
            refine ih (E.length - (i + 1)) _ _ _ (by omega) ⟨i + 1, sl, S, M, c, updT T th (wa, wb), by omega, rfl, ?_⟩
            have h5 : OwnSecs (n2 + 1) (PT.set (PT.set h' n' (some (.cells (PT.ofList .leaf 0 [.int .i64 0, .int .i64 0, .int .u8 0, .int .u64 0]) false))) n' (some (.cells (PT.ofList .leaf 0 [.int .i64 st, .int .i64 th, .int .u8 kd, .int .u64 val]) false))) sl S := by
              rcases q5 with q | ⟨g, g1, g2, g3⟩
              · exact .inl q
              · have := q1.lt g3
                exact .inr ⟨g, g1, g2, by simp (disch := omega) only [heap_ne]; exact g3⟩
            rw [hci]
            clear ih q5
            simp (config := { maxSteps := 2000000 }) (disch := omega) only [go_sem, *]
            exact ⟨WfH.set' (by omega) (q1.set (by omega) (by omega)), by omega, Kept.set' hW (by omega) (Kept.set' hW (by omega) q3), by omega, hfs.symm⟩
      · have e7 : ¬ (i : Int) < E.length := by omega
        obtain rfl : i = E.length := by omega
        rw [List.take_length] at q7
        rw [← q7] at hQ
        clear ih hrow hs hc q7 q9 q8
        repeat' first | simp (config := { maxSteps := 2000000 }) (disch := omega) only [go_sem, *, Try.results47] | (first | apply EvG_ndec | apply EvC_ndec | apply EvG_dec | apply EvC_dec | apply EvC_nbool | apply EvC_bool | apply EvG_nbool | apply EvG_bool) <;> intro _ | (first | apply EvH_ndec | apply EvH_dec | apply EvH_nbool | apply EvH_bool) <;> intro _ | refine EvK_draw (id := 14) (L := [(0, 1), (0, 2), (1, 2), (0, 3), (1, 3), (2, 3), (0, 4), (1, 4), (2, 4), (0, 5), (1, 5), (0, 6), (0, 7), (1, 7), (2, 7), (3, 7), (4, 7), (5, 7), (6, 7), (0, 8), (1, 8), (2, 8), (3, 8), (4, 8), (5, 8), (6, 8)]) (by kernel_rfl) (by kernel_rfl) ?_
        exact ⟨_, rfl, q5.is⟩
end Go.Proofs.Ythhohpbghfbkbaa

set_option linter.unusedVariables false
set_option linter.unusedSimpArgs false
namespace Go.Proofs.Ythhohpbghfbkbaa
open Go.Am

def opnP (step : Int) (s : Sec) : Bool := decide (s.2.2.1 ≤ step ∧ (s.2.2.2 < 0 ∨ s.2.2.2 > step))
def shutS (s : Sec) : Sec := (s.1, s.2.1, s.2.2.1, -1)
/-- What is open at a step. -/
def opn (step : Int) (S : List Sec) : List Sec := (S.filter (opnP step)).map shutS
theorem opn_at {step : Int} {S : List Sec} {i : Nat} (hi : i < S.length) : opn step (S.drop i) = if opnP step S[i] = true then shutS S[i] :: opn step (S.drop (i + 1)) else opn step (S.drop (i + 1)) := by
  rw [List.drop_eq_getElem_cons hi]
  unfold opn
  rw [List.filter_cons]
  split <;> rfl
/-- The answer of Open. -/
def OpenV (step : Int) (E : List Ev) (v : Value) (h : PT ABlk) : Prop := (chk E = false ∧ v = .tuple ⟨[.slice none 0 0, .int .i64 15]⟩) ∨ (chk E = true ∧ step < -1 ∧ v = .tuple ⟨[.slice none 0 0, .int .i64 3]⟩) ∨ (chk E = true ∧ ¬ step < -1 ∧ ∃ sl, v = .tuple ⟨[sl, .int .i64 0]⟩ ∧ IsSecs h sl (opn step (refS 1 E)))
@[go_sem] theorem guard_undef {b : Bool} : guardQ (some undefV) b = false := by cases b <;> rfl
structure EvO (O : Over) : Prop where
  fol : Follows O
  o57 : O 71 = fun _ => none
  o47 : O 58 = fun _ => none
  o39 : O 51 = fun _ => none
  o53 : O 48 = fun _ => none
  o40 : O 52 = endS
  o54 : O 49 = endS
  o38 : O 50 = fun _ => none
  o52 : O 47 = fun _ => none
  o20 : O 40 = fun _ => none
  o44 : O 39 = fun _ => none
  o55 : O 53 = fun _ => none
  o61 : O 59 = fun _ => none
  o56 : O 54 = endsS
  o45 : O 41 = fun _ => none
  o46 : O 42 = fun _ => none
  o36 : O 34 = fun _ => none
  o37 : O 35 = fun _ => none
theorem waitsB {O : Over} (H : EvO O) (E : List Ev) (s : Value) (hn : E.length ≤ 100000) (h : PT ABlk) (N : Nat) (hW : WfH h N) (hs : IsEvs h s E) :
    EvB Try.prog O 40 [s] h N fun v h' n' => SecsV 3 E v h' ∧ Kept h h' := by
  have o := H.o38
  refine EvB_run (N := 8) Try.func40 rfl rfl fun z hP hO hro hN hQ => ?_
  repeat' first | simp (config := { maxSteps := 2000000 }) (disch := omega) only [go_sem, *, Try.results40] | (first | apply EvG_ndec | apply EvC_ndec | apply EvG_dec | apply EvC_dec | apply EvC_nbool | apply EvC_bool | apply EvG_nbool | apply EvG_bool) <;> intro _
  refine EvQ_call ?_ ?_ (by rw [hP, hO]; exact pairsWaits H.fol H.o57 H.o47 H.o39 H.o40 E _ hn _ _ hW hs) ?_
  · simp (config := { maxSteps := 2000000 }) (disch := omega) only [go_sem, *]
  · simp (config := { maxSteps := 2000000 }) (disch := omega) only [go_sem, *]
  rintro v h2 n2 ⟨hv, k2⟩
  have hv2 := hv
  rcases hv2 with ⟨hc, rfl⟩ | ⟨hc, sl, rfl, hI⟩
  · repeat' first | simp (config := { maxSteps := 2000000 }) (disch := omega) only [go_sem, *, Try.results40] | (first | apply EvG_ndec | apply EvC_ndec | apply EvG_dec | apply EvC_dec | apply EvC_nbool | apply EvC_bool | apply EvG_nbool | apply EvG_bool) <;> intro _
  · repeat' first | simp (config := { maxSteps := 2000000 }) (disch := omega) only [go_sem, *, Try.results40] | (first | apply EvG_ndec | apply EvC_ndec | apply EvG_dec | apply EvC_dec | apply EvC_nbool | apply EvC_bool | apply EvG_nbool | apply EvG_bool) <;> intro _
theorem sectionsB {O : Over} (H : EvO O) (E : List Ev) (s : Value) (hn : E.length ≤ 100000) (h : PT ABlk) (N : Nat) (hW : WfH h N) (hs : IsEvs h s E) :
    EvB Try.prog O 39 [s] h N fun v h' n' => SecsV 1 E v h' ∧ Kept h h' := by
  have o := H.o52
  refine EvB_run (N := 8) Try.func39 rfl rfl fun z hP hO hro hN hQ => ?_
  repeat' first | simp (config := { maxSteps := 2000000 }) (disch := omega) only [go_sem, *, Try.results39] | (first | apply EvG_ndec | apply EvC_ndec | apply EvG_dec | apply EvC_dec | apply EvC_nbool | apply EvC_bool | apply EvG_nbool | apply EvG_bool) <;> intro _
  refine EvQ_call ?_ ?_ (by rw [hP, hO]; exact pairsSections H.fol H.o57 H.o47 H.o53 H.o54 E _ hn _ _ hW hs) ?_
  · simp (config := { maxSteps := 2000000 }) (disch := omega) only [go_sem, *]
  · simp (config := { maxSteps := 2000000 }) (disch := omega) only [go_sem, *]
  rintro v h2 n2 ⟨hv, k2⟩
  have hv2 := hv
  rcases hv2 with ⟨hc, rfl⟩ | ⟨hc, sl, rfl, hI⟩
  · repeat' first | simp (config := { maxSteps := 2000000 }) (disch := omega) only [go_sem, *, Try.results39] | (first | apply EvG_ndec | apply EvC_ndec | apply EvG_dec | apply EvC_dec | apply EvC_nbool | apply EvC_bool | apply EvG_nbool | apply EvG_bool) <;> intro _
  · repeat' first | simp (config := { maxSteps := 2000000 }) (disch := omega) only [go_sem, *, Try.results39] | (first | apply EvG_ndec | apply EvC_ndec | apply EvG_dec | apply EvC_dec | apply EvC_nbool | apply EvC_bool | apply EvG_nbool | apply EvG_bool) <;> intro _
set_option maxRecDepth 100000 in
set_option maxHeartbeats 2000000 in
theorem openB {O : Over} (H : EvO O) (E : List Ev) (s : Value) (step : Int) (hn : E.length ≤ 100000) (h : PT ABlk) (N : Nat) (hW : WfH h N) (hs : IsEvs h s E) :
    EvB Try.prog O 34 [.int .i64 step, s] h N fun v h' n' => OpenV step E v h' ∧ Kept h h' := by
  have o := H.o44
  unfold OpenV
  obtain ⟨ba, bc, rfl, hrow⟩ := hs.len
  refine EvB_run (N := 49) Try.func34 rfl rfl fun z hP hO hro hN hQ => ?_
  repeat' first | simp (config := { maxSteps := 2000000 }) (disch := omega) only [go_sem, *, Try.results34] | (first | apply EvG_ndec | apply EvC_ndec | apply EvG_dec | apply EvC_dec | apply EvC_nbool | apply EvC_bool | apply EvG_nbool | apply EvG_bool) <;> intro _
  refine EvQ_call ?_ ?_ (by rw [hP, hO]; exact (sectionsB H E _ hn _ _ hW hs).wf hW) ?_
  · simp (config := { maxSteps := 2000000 }) (disch := omega) only [go_sem, *]
  · simp (config := { maxSteps := 2000000 }) (disch := omega) only [go_sem, *]
  clear hs hrow
  rintro v h2 n2 ⟨⟨hv, k2⟩, hn2, hW2⟩
  rcases hv with ⟨hc, rfl⟩ | ⟨hc, sl, rfl, hI⟩
  · rw [hc] at hQ
    repeat' first | simp (config := { maxSteps := 2000000 }) (disch := omega) only [go_sem, *, Try.results34] | (first | apply EvG_ndec | apply EvC_ndec | apply EvG_dec | apply EvC_dec | apply EvC_nbool | apply EvC_bool | apply EvG_nbool | apply EvG_bool) <;> intro _
  · rw [hc] at hQ
    obtain ⟨sa, sc, rfl, hrow⟩ := hI.len
    have hSl := refS_length 1 E
    generalize refS 1 E = A at *
    by_cases hst : step < -1
    · clear hrow
      repeat' first | simp (config := { maxSteps := 2000000 }) (disch := omega) only [go_sem, *, Try.results34] | (first | apply EvG_ndec | apply EvC_ndec | apply EvG_dec | apply EvC_dec | apply EvC_nbool | apply EvC_bool | apply EvG_nbool | apply EvG_bool) <;> intro _
    · repeat' first | simp (config := { maxSteps := 2000000 }) (disch := omega) only [go_sem, *, Try.results34] | (first | apply EvG_ndec | apply EvC_ndec | apply EvG_dec | apply EvC_dec | apply EvC_nbool | apply EvC_bool | apply EvG_nbool | apply EvG_bool) <;> intro _
      refine ind_loop (fun t m h' n' => ∃ (i : Nat) (ol : Value) (S : List Sec), i ≤ A.length ∧ t = A.length - i ∧ m.n = 49 ∧ m.dfs = [] ∧ m.get 0 = .int .i64 step ∧ m.get 8 = ol ∧ m.get 21 = .slice sa A.length sc ∧ m.get 22 = .int .i64 A.length ∧ m.get 23 = .int .i64 i ∧ WfH h' n' ∧ n2 ≤ n' ∧ Kept h2 h' ∧ OwnSecs n2 h' ol S ∧ S.length ≤ i ∧ S ++ opn step (A.drop i) = opn step A) A.length ?_ ?_
      · refine ⟨0, .slice none 0 0, [], by omega, by omega, ?_⟩
        have how : OwnSecs n2 h2 (.slice none 0 0) [] := .inl ⟨rfl, rfl⟩
        simp (config := { maxSteps := 2000000 }) (disch := omega) only [go_sem, *]
        exact ⟨Nat.le_refl _, Kept.refl _⟩
      · rintro t m h' n' ih ⟨i, ol, S, hi, rfl, m1, m2, m3, m4, m5, m7, m6, q1, q2, q3, q4, q5, q6⟩
        rcases Nat.lt_or_ge i A.length with hlt | hge
        · have e7 : (i : Int) < A.length := by omega
          obtain ⟨b, rfl, hb0⟩ := hrow i hlt
          rw [opn_at hlt] at q6
          have hb := q3 _ _ hb0
          have hbN := hW2.lt hb0
          have hpl : (secCs A).length = A.length * 4 := secCs_length A
          have hro4 := secCs_row hlt
          have hci : ((i + 1 : Nat) : Int) = (i : Int) + 1 := by omega
          obtain ⟨⟨th, val, fr, to⟩, hx⟩ : ∃ x, A[i] = x := ⟨_, rfl⟩
          rw [hx] at hro4 q6
          simp only [secC] at hro4
          have hS4 : (secCs S).length = S.length * 4 := secCs_length S
          clear hQ hrow hb0 hx hI hc
          by_cases hp : fr ≤ step ∧ (to < 0 ∨ to > step)
          · have hp2 : opnP step (th, val, fr, to) = true := decide_eq_true hp
            rw [if_pos hp2] at q6
            have hlen : (S ++ [(th, val, fr, (-1 : Int))]).length = S.length + 1 := by simp
            obtain ⟨hp1, hp3⟩ := hp
            clear hp2
            rcases hp3 with hp3 | hp3
            · rcases q4 with ⟨rfl, rfl⟩ | ⟨g, hgN, rfl, hgr⟩
              · repeat' first | simp (config := { maxSteps := 2000000 }) (disch := omega) only [go_sem, *, Try.results34] | (first | apply EvG_ndec | apply EvC_ndec | apply EvG_dec | apply EvC_dec | apply EvC_nbool | apply EvC_bool | apply EvG_nbool | apply EvG_bool) <;> intro _
                refine ih (A.length - (i + 1)) _ _ _ (by omega) ⟨i + 1, .slice (some ⟨n' + 2, 0, none⟩) 1 (capInf + 4), [(th, val, fr, -1)], by omega, rfl, ?_⟩
                rw [hci]
                clear ih
                simp (config := { maxSteps := 2000000 }) (disch := omega) only [go_sem, *]
                refine ⟨WfH.set' (by omega) (WfH.set' (by omega) (WfH.set' (by omega) (WfH.set' (by omega) (q1.set (by omega) (by omega))))), by omega, Kept.set' hW2 (by omega) (Kept.set' hW2 (by omega) (Kept.set' hW2 (by omega) (Kept.set' hW2 (by omega) (Kept.set' hW2 (by omega) (q3))))), .inr ⟨n' + 2, by omega, rfl, heap_same⟩, q6⟩
              · have hgn := q1.lt hgr
                have htk : (secCs S).take (S.length * 4) = secCs S := by rw [← hS4]; exact List.take_length
                have hbq : (S.length * 4).beq (S.length * 4) = true := Nat.beq_refl _
                have hble : (S.length + 1).ble 1048576 = true := Nat.ble_eq_true_of_le (by omega)
                have hsn : secCs S ++ [.int .i64 th, .int .u64 val, .int .i64 fr, .int .i64 (-1)] = secCs (S ++ [(th, val, fr, -1)]) := (secCs_snoc S (th, val, fr, -1)).symm
                repeat' first | simp (config := { maxSteps := 2000000 }) (disch := omega) only [go_sem, *, Try.results34] | (first | apply EvG_ndec | apply EvC_ndec | apply EvG_dec | apply EvC_dec | apply EvC_nbool | apply EvC_bool | apply EvG_nbool | apply EvG_bool) <;> intro _
                refine ih (A.length - (i + 1)) _ _ _ (by omega) ⟨i + 1, .slice (some ⟨n' + 2, 0, none⟩) (S.length + 1) (capInf + 4), S ++ [(th, val, fr, -1)], by omega, rfl, ?_⟩
                rw [hci]
                clear ih
                simp (config := { maxSteps := 2000000 }) (disch := omega) only [go_sem, *]
                refine ⟨WfH.set' (by omega) (WfH.set' (by omega) (WfH.set' (by omega) (WfH.set' (by omega) (WfH.set' (by omega) (q1.set (by omega) (by omega)))))), by omega, Kept.set' hW2 (by omega) (Kept.set' hW2 (by omega) (Kept.set' hW2 (by omega) (Kept.set' hW2 (by omega) (Kept.set' hW2 (by omega) (Kept.set' hW2 (by omega) (q3)))))), .inr ⟨n' + 2, by omega, by rw [hlen], heap_same⟩, q6⟩
            · have hp4 : ¬ to < 0 := by omega
              rcases q4 with ⟨rfl, rfl⟩ | ⟨g, hgN, rfl, hgr⟩
              · repeat' first | simp (config := { maxSteps := 2000000 }) (disch := omega) only [go_sem, *, Try.results34] | (first | apply EvG_ndec | apply EvC_ndec | apply EvG_dec | apply EvC_dec | apply EvC_nbool | apply EvC_bool | apply EvG_nbool | apply EvG_bool) <;> intro _
                refine ih (A.length - (i + 1)) _ _ _ (by omega) ⟨i + 1, .slice (some ⟨n' + 2, 0, none⟩) 1 (capInf + 4), [(th, val, fr, -1)], by omega, rfl, ?_⟩
                rw [hci]
                clear ih
                simp (config := { maxSteps := 2000000 }) (disch := omega) only [go_sem, *]
                refine ⟨WfH.set' (by omega) (WfH.set' (by omega) (WfH.set' (by omega) (WfH.set' (by omega) (q1.set (by omega) (by omega))))), by omega, Kept.set' hW2 (by omega) (Kept.set' hW2 (by omega) (Kept.set' hW2 (by omega) (Kept.set' hW2 (by omega) (Kept.set' hW2 (by omega) (q3))))), .inr ⟨n' + 2, by omega, rfl, heap_same⟩, q6⟩
              · have hgn := q1.lt hgr
                have htk : (secCs S).take (S.length * 4) = secCs S := by rw [← hS4]; exact List.take_length
                have hbq : (S.length * 4).beq (S.length * 4) = true := Nat.beq_refl _
                have hble : (S.length + 1).ble 1048576 = true := Nat.ble_eq_true_of_le (by omega)
                have hsn : secCs S ++ [.int .i64 th, .int .u64 val, .int .i64 fr, .int .i64 (-1)] = secCs (S ++ [(th, val, fr, -1)]) := (secCs_snoc S (th, val, fr, -1)).symm
                repeat' first | simp (config := { maxSteps := 2000000 }) (disch := omega) only [go_sem, *, Try.results34] | (first | apply EvG_ndec | apply EvC_ndec | apply EvG_dec | apply EvC_dec | apply EvC_nbool | apply EvC_bool | apply EvG_nbool | apply EvG_bool) <;> intro _
                refine ih (A.length - (i + 1)) _ _ _ (by omega) ⟨i + 1, .slice (some ⟨n' + 2, 0, none⟩) (S.length + 1) (capInf + 4), S ++ [(th, val, fr, -1)], by omega, rfl, ?_⟩
                rw [hci]
                clear ih
                simp (config := { maxSteps := 2000000 }) (disch := omega) only [go_sem, *]
                refine ⟨WfH.set' (by omega) (WfH.set' (by omega) (WfH.set' (by omega) (WfH.set' (by omega) (WfH.set' (by omega) (q1.set (by omega) (by omega)))))), by omega, Kept.set' hW2 (by omega) (Kept.set' hW2 (by omega) (Kept.set' hW2 (by omega) (Kept.set' hW2 (by omega) (Kept.set' hW2 (by omega) (Kept.set' hW2 (by omega) (q3)))))), .inr ⟨n' + 2, by omega, by rw [hlen], heap_same⟩, q6⟩
          · have hp2 : ¬ opnP step (th, val, fr, to) = true := fun q => hp (of_decide_eq_true q)
            rw [if_neg hp2] at q6
            clear hp2
            by_cases hp1 : fr ≤ step
            · have hp3 : ¬ to < 0 := fun q => hp ⟨hp1, .inl q⟩
              have hp4 : ¬ to > step := fun q => hp ⟨hp1, .inr q⟩
              clear hp
              repeat' first | simp (config := { maxSteps := 2000000 }) (disch := omega) only [go_sem, *, Try.results34] | (first | apply EvG_ndec | apply EvC_ndec | apply EvG_dec | apply EvC_dec | apply EvC_nbool | apply EvC_bool | apply EvG_nbool | apply EvG_bool) <;> intro _
              refine ih (A.length - (i + 1)) _ _ _ (by omega) ⟨i + 1, ol, S, by omega, rfl, ?_⟩
              have h5 : OwnSecs n2 (PT.set (PT.set h' n' (some (.cells (PT.ofList .leaf 0 [.int .i64 0, .int .u64 0, .int .i64 0, .int .i64 0]) false))) n' (some (.cells (PT.ofList .leaf 0 [.int .i64 th, .int .u64 val, .int .i64 fr, .int .i64 to]) false))) ol S := by
                rcases q4 with q | ⟨g, g1, g2, g3⟩
                · exact .inl q
                · have := q1.lt g3
                  exact .inr ⟨g, g1, g2, by simp (disch := omega) only [heap_ne]; exact g3⟩
              rw [hci]
              clear ih q4
              simp (config := { maxSteps := 2000000 }) (disch := omega) only [go_sem, *]
              first | exact ⟨WfH.set' (by omega) (q1.set (by omega) (by omega)), by omega, Kept.set' hW2 (by omega) (Kept.set' hW2 (by omega) q3), by omega⟩ | exact ⟨WfH.set' (by omega) (q1.set (by omega) (by omega)), by omega, Kept.set' hW2 (by omega) (Kept.set' hW2 (by omega) q3)⟩
            · clear hp
              repeat' first | simp (config := { maxSteps := 2000000 }) (disch := omega) only [go_sem, *, Try.results34] | (first | apply EvG_ndec | apply EvC_ndec | apply EvG_dec | apply EvC_dec | apply EvC_nbool | apply EvC_bool | apply EvG_nbool | apply EvG_bool) <;> intro _
              refine ih (A.length - (i + 1)) _ _ _ (by omega) ⟨i + 1, ol, S, by omega, rfl, ?_⟩
              have h5 : OwnSecs n2 (PT.set (PT.set h' n' (some (.cells (PT.ofList .leaf 0 [.int .i64 0, .int .u64 0, .int .i64 0, .int .i64 0]) false))) n' (some (.cells (PT.ofList .leaf 0 [.int .i64 th, .int .u64 val, .int .i64 fr, .int .i64 to]) false))) ol S := by
                rcases q4 with q | ⟨g, g1, g2, g3⟩
                · exact .inl q
                · have := q1.lt g3
                  exact .inr ⟨g, g1, g2, by simp (disch := omega) only [heap_ne]; exact g3⟩
              rw [hci]
              clear ih q4
              simp (config := { maxSteps := 2000000 }) (disch := omega) only [go_sem, *]
              first | exact ⟨WfH.set' (by omega) (q1.set (by omega) (by omega)), by omega, Kept.set' hW2 (by omega) (Kept.set' hW2 (by omega) q3), by omega⟩ | exact ⟨WfH.set' (by omega) (q1.set (by omega) (by omega)), by omega, Kept.set' hW2 (by omega) (Kept.set' hW2 (by omega) q3)⟩
        · have e7 : ¬ (i : Int) < A.length := by omega
          obtain rfl : i = A.length := by omega
          rw [List.drop_length] at q6
          have q7 : S = opn step A := by rw [← q6]; simp [opn]
          rw [← q7] at hQ
          have k9 := k2.trans q3
          clear ih hrow hI hc q6 q7
          repeat' first | simp (config := { maxSteps := 2000000 }) (disch := omega) only [go_sem, *, Try.results34] | (first | apply EvG_ndec | apply EvC_ndec | apply EvG_dec | apply EvC_dec | apply EvC_nbool | apply EvC_bool | apply EvG_nbool | apply EvG_bool) <;> intro _
          exact ⟨_, rfl, q4.is⟩
set_option maxRecDepth 100000 in
set_option maxHeartbeats 2000000 in
theorem refOpenB {O : Over} (H : EvO O) (E : List Ev) (s : Value) (step : Int) (hn : E.length ≤ 100000) (h : PT ABlk) (N : Nat) (hW : WfH h N) (hs : IsEvs h s E) :
    EvB Try.prog O 35 [.int .i64 step, s] h N fun v h' n' => OpenV step E v h' ∧ Kept h h' := by
  have o := H.o46
  unfold OpenV
  obtain ⟨ba, bc, rfl, hrow⟩ := hs.len
  refine EvB_run (N := 52) Try.func35 rfl rfl fun z hP hO hro hN hQ => ?_
  repeat' first | simp (config := { maxSteps := 2000000 }) (disch := omega) only [go_sem, *, Try.results35] | (first | apply EvG_ndec | apply EvC_ndec | apply EvG_dec | apply EvC_dec | apply EvC_nbool | apply EvC_bool | apply EvG_nbool | apply EvG_bool) <;> intro _
  refine EvQ_call ?_ ?_ (by rw [hP, hO]; exact (refSections H.o55 H.o61 H.o56 E _ hn _ _ hW hs).wf hW) ?_
  · simp (config := { maxSteps := 2000000 }) (disch := omega) only [go_sem, *]
  · simp (config := { maxSteps := 2000000 }) (disch := omega) only [go_sem, *]
  clear hs hrow
  rintro v h2 n2 ⟨⟨hv, k2⟩, hn2, hW2⟩
  rcases hv with ⟨hc, rfl⟩ | ⟨hc, sl, rfl, hI⟩
  · rw [hc] at hQ
    repeat' first | simp (config := { maxSteps := 2000000 }) (disch := omega) only [go_sem, *, Try.results35] | (first | apply EvG_ndec | apply EvC_ndec | apply EvG_dec | apply EvC_dec | apply EvC_nbool | apply EvC_bool | apply EvG_nbool | apply EvG_bool) <;> intro _
  · rw [hc] at hQ
    obtain ⟨sa, sc, rfl, hrow⟩ := hI.len
    have hSl := refS_length 1 E
    generalize refS 1 E = A at *
    by_cases hst : step < -1
    · clear hrow
      repeat' first | simp (config := { maxSteps := 2000000 }) (disch := omega) only [go_sem, *, Try.results35] | (first | apply EvG_ndec | apply EvC_ndec | apply EvG_dec | apply EvC_dec | apply EvC_nbool | apply EvC_bool | apply EvG_nbool | apply EvG_bool) <;> intro _
    · repeat' first | simp (config := { maxSteps := 2000000 }) (disch := omega) only [go_sem, *, Try.results35] | (first | apply EvG_ndec | apply EvC_ndec | apply EvG_dec | apply EvC_dec | apply EvC_nbool | apply EvC_bool | apply EvG_nbool | apply EvG_bool) <;> intro _
      refine ind_loop (fun t m h' n' => ∃ (i : Nat) (ol : Value) (S : List Sec), i ≤ A.length ∧ t = A.length - i ∧ m.n = 52 ∧ m.dfs = [] ∧ m.get 0 = .int .i64 step ∧ m.get 8 = ol ∧ m.get 6 = .slice sa A.length sc ∧ m.get 9 = .int .i64 i ∧ WfH h' n' ∧ n2 ≤ n' ∧ Kept h2 h' ∧ OwnSecs n2 h' ol S ∧ S.length ≤ i ∧ S ++ opn step (A.drop i) = opn step A) A.length ?_ ?_
      · refine ⟨0, .slice none 0 0, [], by omega, by omega, ?_⟩
        have how : OwnSecs n2 h2 (.slice none 0 0) [] := .inl ⟨rfl, rfl⟩
        simp (config := { maxSteps := 2000000 }) (disch := omega) only [go_sem, *]
        exact ⟨Nat.le_refl _, Kept.refl _⟩
      · rintro t m h' n' ih ⟨i, ol, S, hi, rfl, m1, m2, m3, m4, m5, m6, q1, q2, q3, q4, q5, q6⟩
        rcases Nat.lt_or_ge i A.length with hlt | hge
        · have e7 : (i : Int) < A.length := by omega
          obtain ⟨b, rfl, hb0⟩ := hrow i hlt
          rw [opn_at hlt] at q6
          have hb := q3 _ _ hb0
          have hbN := hW2.lt hb0
          have hpl : (secCs A).length = A.length * 4 := secCs_length A
          have hro4 := secCs_row hlt
          have hci : ((i + 1 : Nat) : Int) = (i : Int) + 1 := by omega
          obtain ⟨⟨th, val, fr, to⟩, hx⟩ : ∃ x, A[i] = x := ⟨_, rfl⟩
          rw [hx] at hro4 q6
          simp only [secC] at hro4
          have hS4 : (secCs S).length = S.length * 4 := secCs_length S
          clear hQ hrow hb0 hx hI hc
          by_cases hp : fr ≤ step ∧ (to < 0 ∨ to > step)
          · have hp2 : opnP step (th, val, fr, to) = true := decide_eq_true hp
            rw [if_pos hp2] at q6
            have hlen : (S ++ [(th, val, fr, (-1 : Int))]).length = S.length + 1 := by simp
            obtain ⟨hp1, hp3⟩ := hp
            clear hp2
            rcases hp3 with hp3 | hp3
            · rcases q4 with ⟨rfl, rfl⟩ | ⟨g, hgN, rfl, hgr⟩
              · repeat' first | simp (config := { maxSteps := 2000000 }) (disch := omega) only [go_sem, *, Try.results35] | (first | apply EvG_ndec | apply EvC_ndec | apply EvG_dec | apply EvC_dec | apply EvC_nbool | apply EvC_bool | apply EvG_nbool | apply EvG_bool) <;> intro _
                refine ih (A.length - (i + 1)) _ _ _ (by omega) ⟨i + 1, .slice (some ⟨n' + 2, 0, none⟩) 1 (capInf + 4), [(th, val, fr, -1)], by omega, rfl, ?_⟩
                rw [hci]
                clear ih
                simp (config := { maxSteps := 2000000 }) (disch := omega) only [go_sem, *]
                refine ⟨WfH.set' (by omega) (WfH.set' (by omega) (WfH.set' (by omega) (WfH.set' (by omega) (q1.set (by omega) (by omega))))), by omega, Kept.set' hW2 (by omega) (Kept.set' hW2 (by omega) (Kept.set' hW2 (by omega) (Kept.set' hW2 (by omega) (Kept.set' hW2 (by omega) (q3))))), .inr ⟨n' + 2, by omega, rfl, heap_same⟩, q6⟩
              · have hgn := q1.lt hgr
                have htk : (secCs S).take (S.length * 4) = secCs S := by rw [← hS4]; exact List.take_length
                have hbq : (S.length * 4).beq (S.length * 4) = true := Nat.beq_refl _
                have hble : (S.length + 1).ble 1048576 = true := Nat.ble_eq_true_of_le (by omega)
                have hsn : secCs S ++ [.int .i64 th, .int .u64 val, .int .i64 fr, .int .i64 (-1)] = secCs (S ++ [(th, val, fr, -1)]) := (secCs_snoc S (th, val, fr, -1)).symm
                repeat' first | simp (config := { maxSteps := 2000000 }) (disch := omega) only [go_sem, *, Try.results35] | (first | apply EvG_ndec | apply EvC_ndec | apply EvG_dec | apply EvC_dec | apply EvC_nbool | apply EvC_bool | apply EvG_nbool | apply EvG_bool) <;> intro _
                refine ih (A.length - (i + 1)) _ _ _ (by omega) ⟨i + 1, .slice (some ⟨n' + 2, 0, none⟩) (S.length + 1) (capInf + 4), S ++ [(th, val, fr, -1)], by omega, rfl, ?_⟩
                rw [hci]
                clear ih
                simp (config := { maxSteps := 2000000 }) (disch := omega) only [go_sem, *]
                refine ⟨WfH.set' (by omega) (WfH.set' (by omega) (WfH.set' (by omega) (WfH.set' (by omega) (WfH.set' (by omega) (q1.set (by omega) (by omega)))))), by omega, Kept.set' hW2 (by omega) (Kept.set' hW2 (by omega) (Kept.set' hW2 (by omega) (Kept.set' hW2 (by omega) (Kept.set' hW2 (by omega) (Kept.set' hW2 (by omega) (q3)))))), .inr ⟨n' + 2, by omega, by rw [hlen], heap_same⟩, q6⟩
            · have hp4 : ¬ to < 0 := by omega
              rcases q4 with ⟨rfl, rfl⟩ | ⟨g, hgN, rfl, hgr⟩
              · repeat' first | simp (config := { maxSteps := 2000000 }) (disch := omega) only [go_sem, *, Try.results35] | (first | apply EvG_ndec | apply EvC_ndec | apply EvG_dec | apply EvC_dec | apply EvC_nbool | apply EvC_bool | apply EvG_nbool | apply EvG_bool) <;> intro _
                refine ih (A.length - (i + 1)) _ _ _ (by omega) ⟨i + 1, .slice (some ⟨n' + 2, 0, none⟩) 1 (capInf + 4), [(th, val, fr, -1)], by omega, rfl, ?_⟩
                rw [hci]
                clear ih
                simp (config := { maxSteps := 2000000 }) (disch := omega) only [go_sem, *]
                refine ⟨WfH.set' (by omega) (WfH.set' (by omega) (WfH.set' (by omega) (WfH.set' (by omega) (q1.set (by omega) (by omega))))), by omega, Kept.set' hW2 (by omega) (Kept.set' hW2 (by omega) (Kept.set' hW2 (by omega) (Kept.set' hW2 (by omega) (Kept.set' hW2 (by omega) (q3))))), .inr ⟨n' + 2, by omega, rfl, heap_same⟩, q6⟩
              · have hgn := q1.lt hgr
                have htk : (secCs S).take (S.length * 4) = secCs S := by rw [← hS4]; exact List.take_length
                have hbq : (S.length * 4).beq (S.length * 4) = true := Nat.beq_refl _
                have hble : (S.length + 1).ble 1048576 = true := Nat.ble_eq_true_of_le (by omega)
                have hsn : secCs S ++ [.int .i64 th, .int .u64 val, .int .i64 fr, .int .i64 (-1)] = secCs (S ++ [(th, val, fr, -1)]) := (secCs_snoc S (th, val, fr, -1)).symm
                repeat' first | simp (config := { maxSteps := 2000000 }) (disch := omega) only [go_sem, *, Try.results35] | (first | apply EvG_ndec | apply EvC_ndec | apply EvG_dec | apply EvC_dec | apply EvC_nbool | apply EvC_bool | apply EvG_nbool | apply EvG_bool) <;> intro _
                refine ih (A.length - (i + 1)) _ _ _ (by omega) ⟨i + 1, .slice (some ⟨n' + 2, 0, none⟩) (S.length + 1) (capInf + 4), S ++ [(th, val, fr, -1)], by omega, rfl, ?_⟩
                rw [hci]
                clear ih
                simp (config := { maxSteps := 2000000 }) (disch := omega) only [go_sem, *]
                refine ⟨WfH.set' (by omega) (WfH.set' (by omega) (WfH.set' (by omega) (WfH.set' (by omega) (WfH.set' (by omega) (q1.set (by omega) (by omega)))))), by omega, Kept.set' hW2 (by omega) (Kept.set' hW2 (by omega) (Kept.set' hW2 (by omega) (Kept.set' hW2 (by omega) (Kept.set' hW2 (by omega) (Kept.set' hW2 (by omega) (q3)))))), .inr ⟨n' + 2, by omega, by rw [hlen], heap_same⟩, q6⟩
          · have hp2 : ¬ opnP step (th, val, fr, to) = true := fun q => hp (of_decide_eq_true q)
            rw [if_neg hp2] at q6
            clear hp2
            by_cases hp1 : fr ≤ step
            · have hp3 : ¬ to < 0 := fun q => hp ⟨hp1, .inl q⟩
              have hp4 : ¬ to > step := fun q => hp ⟨hp1, .inr q⟩
              clear hp
              repeat' first | simp (config := { maxSteps := 2000000 }) (disch := omega) only [go_sem, *, Try.results35] | (first | apply EvG_ndec | apply EvC_ndec | apply EvG_dec | apply EvC_dec | apply EvC_nbool | apply EvC_bool | apply EvG_nbool | apply EvG_bool) <;> intro _
              refine ih (A.length - (i + 1)) _ _ _ (by omega) ⟨i + 1, ol, S, by omega, rfl, ?_⟩
              have h5 : OwnSecs n2 (PT.set (PT.set h' n' (some (.cells (PT.ofList .leaf 0 [.int .i64 0, .int .u64 0, .int .i64 0, .int .i64 0]) false))) n' (some (.cells (PT.ofList .leaf 0 [.int .i64 th, .int .u64 val, .int .i64 fr, .int .i64 to]) false))) ol S := by
                rcases q4 with q | ⟨g, g1, g2, g3⟩
                · exact .inl q
                · have := q1.lt g3
                  exact .inr ⟨g, g1, g2, by simp (disch := omega) only [heap_ne]; exact g3⟩
              rw [hci]
              clear ih q4
              simp (config := { maxSteps := 2000000 }) (disch := omega) only [go_sem, *]
              first | exact ⟨WfH.set' (by omega) (q1.set (by omega) (by omega)), by omega, Kept.set' hW2 (by omega) (Kept.set' hW2 (by omega) q3), by omega⟩ | exact ⟨WfH.set' (by omega) (q1.set (by omega) (by omega)), by omega, Kept.set' hW2 (by omega) (Kept.set' hW2 (by omega) q3)⟩
            · clear hp
              repeat' first | simp (config := { maxSteps := 2000000 }) (disch := omega) only [go_sem, *, Try.results35] | (first | apply EvG_ndec | apply EvC_ndec | apply EvG_dec | apply EvC_dec | apply EvC_nbool | apply EvC_bool | apply EvG_nbool | apply EvG_bool) <;> intro _
              refine ih (A.length - (i + 1)) _ _ _ (by omega) ⟨i + 1, ol, S, by omega, rfl, ?_⟩
              have h5 : OwnSecs n2 (PT.set (PT.set h' n' (some (.cells (PT.ofList .leaf 0 [.int .i64 0, .int .u64 0, .int .i64 0, .int .i64 0]) false))) n' (some (.cells (PT.ofList .leaf 0 [.int .i64 th, .int .u64 val, .int .i64 fr, .int .i64 to]) false))) ol S := by
                rcases q4 with q | ⟨g, g1, g2, g3⟩
                · exact .inl q
                · have := q1.lt g3
                  exact .inr ⟨g, g1, g2, by simp (disch := omega) only [heap_ne]; exact g3⟩
              rw [hci]
              clear ih q4
              simp (config := { maxSteps := 2000000 }) (disch := omega) only [go_sem, *]
              first | exact ⟨WfH.set' (by omega) (q1.set (by omega) (by omega)), by omega, Kept.set' hW2 (by omega) (Kept.set' hW2 (by omega) q3), by omega⟩ | exact ⟨WfH.set' (by omega) (q1.set (by omega) (by omega)), by omega, Kept.set' hW2 (by omega) (Kept.set' hW2 (by omega) q3)⟩
        · have e7 : ¬ (i : Int) < A.length := by omega
          obtain rfl : i = A.length := by omega
          rw [List.drop_length] at q6
          have q7 : S = opn step A := by rw [← q6]; simp [opn]
          rw [← q7] at hQ
          have k9 := k2.trans q3
          clear ih hrow hI hc q6 q7
          repeat' first | simp (config := { maxSteps := 2000000 }) (disch := omega) only [go_sem, *, Try.results35] | (first | apply EvG_ndec | apply EvC_ndec | apply EvG_dec | apply EvC_dec | apply EvC_nbool | apply EvC_bool | apply EvG_nbool | apply EvG_bool) <;> intro _
          exact ⟨_, rfl, q4.is⟩
end Go.Proofs.Ythhohpbghfbkbaa
