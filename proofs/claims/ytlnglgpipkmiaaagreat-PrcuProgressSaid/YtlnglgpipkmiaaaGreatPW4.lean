/-
  A part of the proof: contracts of inner functions.
-/
import Derived.Test.YtlnglgpipkmiaaaGreatPV4
set_option linter.unusedVariables false
set_option linter.unusedSimpArgs false
namespace Go.Proofs.YtlnglgpipkmiaaaGreat
open Go.Am
def sum6 (f : Nat → Nat) : Nat := f 0 + f 1 + f 2 + f 3 + f 4 + f 5
theorem sum6_le {f g : Nat → Nat} (h : ∀ u, u < 6 → f u ≤ g u) : sum6 f ≤ sum6 g := by
  unfold sum6
  have h0 := h 0 (by omega); have h1 := h 1 (by omega); have h2 := h 2 (by omega); have h3 := h 3 (by omega); have h4 := h 4 (by omega); have h5 := h 5 (by omega)
  omega
theorem sum6_lt {f g : Nat → Nat} {t : Nat} (ht : t < 6) (hlt : f t < g t) (h : ∀ u, u < 6 → f u ≤ g u) : sum6 f < sum6 g := by
  unfold sum6
  have h0 := h 0 (by omega); have h1 := h 1 (by omega); have h2 := h 2 (by omega); have h3 := h 3 (by omega); have h4 := h 4 (by omega); have h5 := h 5 (by omega)
  have : t = 0 ∨ t = 1 ∨ t = 2 ∨ t = 3 ∨ t = 4 ∨ t = 5 := by omega
  rcases this with rfl | rfl | rfl | rfl | rfl | rfl <;> omega
variable {e : Eng}
def Eng.busy (e : Eng) (s : e.σ) (t : Nat) : Bool := e.ent s t || e.wt s t || e.inn s t
def Eng.go (e : Eng) (s : e.σ) (t : Nat) : e.σ := if e.ent s t = true then e.estep s t else if e.wt s t = true then e.wstep s t else if e.inn s t = true then e.exit s t else s
def Eng.turn (e : Eng) (s : e.σ) (t : Nat) : e.σ := if e.busy s t = true then e.go s t else s
def Eng.turns (e : Eng) (s : e.σ) : Nat → e.σ
  | 0 => s
  | t + 1 => e.turn (e.turns s t) t
def Eng.rounds (e : Eng) (s : e.σ) : Nat → e.σ
  | 0 => s
  | n + 1 => e.turns (e.rounds s n) 6
structure Eng.Live (e : Eng) (I : e.σ → Prop) (mt : e.σ → Nat → Nat) (Q : Nat → e.σ → Prop) : Prop where
  inv : ∀ s t, I s → t < 6 → e.busy s t = true → I (e.go s t)
  le : ∀ s t u, I s → t < 6 → u < 6 → e.busy s t = true → mt (e.go s t) u ≤ mt s u
  q : ∀ s t u, I s → Q t s → u < 6 → u ≠ t → e.busy s u = true → Q t (e.go s u)
  dec : ∀ s t, I s → t < 6 → Q t s → e.busy s t = true ∧ mt (e.go s t) t < mt s t
  live : ∀ s, I s → (∃ t, t < 6 ∧ e.busy s t = true) → ∃ t, t < 6 ∧ (Q t s ∨ (e.busy s t = true ∧ (∀ u, u < t → e.busy s u = false) ∧ mt (e.go s t) t < mt s t))
  bound : ∀ s, I s → sum6 (mt s) ≤ 400
theorem idle_stays {s : e.σ} (h : ∀ t, t < 6 → e.busy s t = false) : e.turns s 6 = s := by
  have hs : ∀ n, n ≤ 6 → e.turns s n = s := by
    intro n
    induction n with
    | zero => exact fun _ => rfl
    | succ n ih =>
      intro hn
      show e.turn (e.turns s n) n = s
      rw [ih (by omega)]
      unfold Eng.turn
      rw [h n (by omega)]; rfl
  exact hs 6 (Nat.le_refl _)
section
variable {I : e.σ → Prop} {mt : e.σ → Nat → Nat} {Q : Nat → e.σ → Prop} (L : e.Live I mt Q)
include L
theorem turn_inv {s : e.σ} {t : Nat} (i : I s) (ht : t < 6) : I (e.turn s t) ∧ ∀ u, u < 6 → mt (e.turn s t) u ≤ mt s u := by
  unfold Eng.turn
  split
  · rename_i c
    exact ⟨L.inv s t i ht c, fun u hu => L.le s t u i ht hu c⟩
  · exact ⟨i, fun u _ => Nat.le_refl _⟩
theorem turns_inv {s : e.σ} (i : I s) : ∀ n, n ≤ 6 → I (e.turns s n) ∧ ∀ u, u < 6 → mt (e.turns s n) u ≤ mt s u
  | 0, _ => ⟨i, fun u _ => Nat.le_refl _⟩
  | n + 1, h => by
    obtain ⟨h1, h2⟩ := turns_inv i n (by omega)
    obtain ⟨h3, h4⟩ := turn_inv L h1 (show n < 6 by omega)
    exact ⟨h3, fun u hu => Nat.le_trans (h4 u hu) (h2 u hu)⟩
theorem turns_more {s : e.σ} (i : I s) {n : Nat} (k : Nat) (h : n + k ≤ 6) : ∀ u, u < 6 → mt (e.turns s (n + k)) u ≤ mt (e.turns s n) u := by
  induction k with
  | zero => exact fun u _ => Nat.le_refl _
  | succ k ih =>
    intro u hu
    have h1 := turns_inv L i (n + k) (by omega)
    have h2 := (turn_inv L h1.1 (show n + k < 6 by omega)).2 u hu
    exact Nat.le_trans h2 (ih (by omega) u hu)
theorem round_dec {s : e.σ} (i : I s) (h : ∃ t, t < 6 ∧ e.busy s t = true) : sum6 (mt (e.turns s 6)) < sum6 (mt s) := by
  obtain ⟨t, ht, c⟩ := L.live s i h
  have key : mt (e.turns s (t + 1)) t < mt s t := by
    rcases c with c | ⟨c1, c2, c3⟩
    · have hq : ∀ n, n ≤ t → Q t (e.turns s n) := by
        intro n
        induction n with
        | zero => exact fun _ => c
        | succ n ih =>
          intro hn
          have h1 := turns_inv L i n (by omega)
          show Q t (e.turn (e.turns s n) n)
          unfold Eng.turn
          split
          · rename_i cb
            exact L.q _ _ _ h1.1 (ih (by omega)) (by omega) (by omega) cb
          · exact ih (by omega)
      have h1 := turns_inv L i t (by omega)
      obtain ⟨d1, d2⟩ := L.dec _ t h1.1 ht (hq t (Nat.le_refl _))
      have : e.turns s (t + 1) = e.go (e.turns s t) t := by
        show e.turn (e.turns s t) t = _
        unfold Eng.turn; rw [if_pos d1]
      rw [this]
      exact Nat.lt_of_lt_of_le d2 (h1.2 t ht)
    · have hs : ∀ n, n ≤ t → e.turns s n = s := by
        intro n
        induction n with
        | zero => exact fun _ => rfl
        | succ n ih =>
          intro hn
          show e.turn (e.turns s n) n = s
          rw [ih (by omega)]
          unfold Eng.turn
          rw [c2 n (by omega)]; rfl
      have : e.turns s (t + 1) = e.go s t := by
        show e.turn (e.turns s t) t = _
        rw [hs t (Nat.le_refl _)]
        unfold Eng.turn; rw [if_pos c1]
      rw [this]; exact c3
  have h6 := turns_more L i (n := t + 1) (6 - (t + 1)) (by omega)
  rw [show t + 1 + (6 - (t + 1)) = 6 by omega] at h6
  exact sum6_lt ht (Nat.lt_of_le_of_lt (h6 t ht) key) (turns_inv L i 6 (Nat.le_refl _)).2
theorem rounds_inv {s : e.σ} (i : I s) : ∀ n, I (e.rounds s n) ∧ (sum6 (mt (e.rounds s n)) + n ≤ sum6 (mt s) ∨ ∀ t, t < 6 → e.busy (e.rounds s n) t = false)
  | 0 => ⟨i, .inl (Nat.le_refl _)⟩
  | n + 1 => by
    obtain ⟨h1, h2⟩ := rounds_inv i n
    refine ⟨(turns_inv L h1 6 (Nat.le_refl _)).1, ?_⟩
    by_cases c : ∃ t, t < 6 ∧ e.busy (e.rounds s n) t = true
    · have hd := round_dec L h1 c
      rcases h2 with h2 | h2
      · left
        show sum6 (mt (e.turns (e.rounds s n) 6)) + (n + 1) ≤ _
        omega
      · obtain ⟨t, ht, hb⟩ := c
        rw [h2 t ht] at hb; simp at hb
    · right
      have hi : ∀ t, t < 6 → e.busy (e.rounds s n) t = false := fun t ht => by
        cases hb : e.busy (e.rounds s n) t with
        | false => rfl
        | true => exact absurd ⟨t, ht, hb⟩ c
      show ∀ t, t < 6 → e.busy (e.turns (e.rounds s n) 6) t = false
      rw [idle_stays hi]; exact hi
theorem idle400 {s : e.σ} (i : I s) : I (e.rounds s 400) ∧ ∀ t, t < 6 → e.busy (e.rounds s 400) t = false := by
  obtain ⟨h1, h2⟩ := rounds_inv L i 400
  refine ⟨h1, ?_⟩
  rcases h2 with h2 | h2
  · have hb := L.bound s i
    have h0 : sum6 (mt (e.rounds s 400)) = 0 := by omega
    intro t ht
    cases hb : e.busy (e.rounds s 400) t with
    | false => rfl
    | true =>
      have := round_dec L h1 ⟨t, ht, hb⟩
      omega
  · exact h2
end
end Go.Proofs.YtlnglgpipkmiaaaGreat
set_option linter.unusedVariables false
set_option linter.unusedSimpArgs false
namespace Go.Proofs.YtlnglgpipkmiaaaGreat
open Go.Am
structure IF (s : FS) : Prop where
  one : One engF s
  x : ∀ t y, s.X t = some y → y.slot < 6 ∧ y.ended = false ∧ (y.again = true → y.first.tmod 2 = 1)
def wmF : Option FW → Nat
  | none => 0
  | some x => 2 * (6 - x.slot) - (if x.again = true then 1 else 0)
def mtF (s : FS) (t : Nat) : Nat := (if s.E t = true then 2 else 0) + s.N t % 2 + wmF (s.X t)
def QF (t : Nat) (s : FS) : Prop := s.E t = true ∨ s.N t % 2 = 1 ∨ ((s.X t).isSome = true ∧ ∀ u, u < 6 → s.E u = false ∧ s.N u % 2 = 0)
theorem busyF {s : FS} {t : Nat} : engF.busy s t = true ↔ s.E t = true ∨ (s.X t).isSome = true ∨ s.N t % 2 = 1 := by
  unfold Eng.busy
  show (s.E t || (s.X t).isSome || decide (s.N t % 2 = 1)) = true ↔ _
  simp only [Bool.or_eq_true, decide_eq_true_eq, or_assoc]
theorem goF_e {s : FS} {t : Nat} (h : s.E t = true) : engF.go s t = { s with N := fs s.N t (s.N t + 1), E := fs s.E t false } := by unfold Eng.go; exact if_pos h
theorem goF_w {s : FS} {t : Nat} {x : FW} (h : s.E t = false) (hx : s.X t = some x) : engF.go s t = { s with X := fs s.X t (if (x.step 6 (s.N x.slot)).ended = true then none else some (x.step 6 (s.N x.slot))) } := by
  unfold Eng.go
  rw [if_neg (show ¬ s.E t = true by rw [h]; simp), if_pos (show (s.X t).isSome = true by rw [hx]; rfl)]
  exact engF_wstep hx
theorem goF_x {s : FS} {t : Nat} (h : s.E t = false) (hx : s.X t = none) (hn : s.N t % 2 = 1) : engF.go s t = { s with N := fs s.N t (s.N t + 1) } := by
  unfold Eng.go
  rw [if_neg (show ¬ s.E t = true by rw [h]; simp), if_neg (show ¬ (s.X t).isSome = true by rw [hx]; simp)]
  exact if_pos (decide_eq_true hn)
theorem wmF_step {x : FW} {w : Nat} (h : x.slot < 6) (he : x.ended = false) (ha : x.again = true → x.first.tmod 2 = 1) :
    wmF (if (x.step 6 w).ended = true then none else some (x.step 6 w)) ≤ wmF (some x) ∧ (w % 2 = 0 → wmF (if (x.step 6 w).ended = true then none else some (x.step 6 w)) < wmF (some x)) ∧ ∀ y, (if (x.step 6 w).ended = true then none else some (x.step 6 w)) = some y → y.slot < 6 ∧ y.ended = false ∧ (y.again = true → y.first.tmod 2 = 1) := by
  have hw : ((w : Nat) : Int).tmod 2 = ((w % 2 : Nat) : Int) := rfl
  have nx : (wmF (if (x.next 6).ended = true then none else some (x.next 6)) < wmF (some x)) ∧ ∀ y, (if (x.next 6).ended = true then none else some (x.next 6)) = some y → y.slot < 6 ∧ y.ended = false ∧ (y.again = true → y.first.tmod 2 = 1) := by
    unfold FW.next
    simp only [decide_eq_true_eq]
    by_cases c : x.slot + 1 = 6
    · rw [if_pos c]
      refine ⟨?_, fun y hy => by simp at hy⟩
      unfold wmF
      simp only
      split <;> omega
    · rw [if_neg c]
      refine ⟨?_, fun y hy => ?_⟩
      · unfold wmF
        simp only [Bool.false_eq_true, if_false]
        split <;> omega
      · obtain rfl := Option.some.inj hy
        exact ⟨by show x.slot + 1 < 6; omega, decide_eq_false c, fun q => by simp at q⟩
  unfold FW.step
  split
  · rename_i ca
    split
    · rename_i cw
      rw [if_neg (by rw [he]; simp)]
      refine ⟨Nat.le_refl _, fun q => ?_, fun y hy => ?_⟩
      · have := ha ca
        rw [← cw, hw] at this
        omega
      · obtain rfl := Option.some.inj hy
        exact ⟨h, he, ha⟩
    · exact ⟨Nat.le_of_lt nx.1, fun _ => nx.1, nx.2⟩
  · rename_i ca
    split
    · exact ⟨Nat.le_of_lt nx.1, fun _ => nx.1, nx.2⟩
    · rename_i cw
      rw [if_neg (by simp)]
      have hca : x.again = false := by simpa using ca
      refine ⟨?_, fun q => ?_, fun y hy => ?_⟩
      · unfold wmF; simp only [hca, if_true, Bool.false_eq_true, if_false]; omega
      · rw [hw] at cw; omega
      · obtain rfl := Option.some.inj hy
        refine ⟨h, rfl, fun _ => ?_⟩
        show ((w : Nat) : Int).tmod 2 = 1
        rw [hw] at cw ⊢
        omega
theorem oneF {s : FS} (o : One engF s) (t : Nat) : (s.E t = true → s.N t % 2 = 0 ∧ s.X t = none) ∧ (s.N t % 2 = 1 → s.X t = none) := by
  have h := o t
  refine ⟨fun q => ?_, fun q => ?_⟩
  · have := h.1 q
    exact ⟨by have h1 : decide (s.N t % 2 = 1) = false := this.1; simp at h1; omega, by have h2 : (s.X t).isSome = false := this.2; simpa using h2⟩
  · have h2 : (s.X t).isSome = false := h.2 (decide_eq_true q)
    simpa using h2
theorem one_of {s : FS} (h : ∀ t, (s.E t = true → s.N t % 2 = 0 ∧ s.X t = none) ∧ (s.N t % 2 = 1 → s.X t = none)) : One engF s := fun t =>
  ⟨fun q => ⟨decide_eq_false (by have := ((h t).1 q).1; omega), by show (s.X t).isSome = false; rw [((h t).1 q).2]; rfl⟩, fun q => by
    have q' : decide (s.N t % 2 = 1) = true := q
    show (s.X t).isSome = false
    rw [(h t).2 (by simpa using q')]; rfl⟩
theorem goF_cases {s : FS} {t : Nat} (i : IF s) (ht : t < 6) (hb : engF.busy s t = true) : IF (engF.go s t) ∧ mtF (engF.go s t) t ≤ mtF s t ∧ (∀ u, u ≠ t → mtF (engF.go s t) u = mtF s u) ∧ (QF t s → mtF (engF.go s t) t < mtF s t) ∧ ∀ u, u ≠ t → QF u s → QF u (engF.go s t) := by
  have o := oneF i.one
  rw [busyF] at hb
  cases he : s.E t with
  | true =>
    obtain ⟨o1, o2⟩ := (o t).1 he
    rw [goF_e he]
    have hm : mtF ({ s with N := fs s.N t (s.N t + 1), E := fs s.E t false } : FS) t < mtF s t := by
      unfold mtF
      simp only [fs_same, he, o2]
      simp only [wmF, if_true, Bool.false_eq_true, if_false]
      omega
    refine ⟨⟨one_of fun u => ?_, i.x⟩, Nat.le_of_lt hm, fun u c => by unfold mtF; simp only [fs_ne c], fun _ => hm, fun u c q => ?_⟩
    · by_cases c : u = t
      · subst c
        simp only [fs_same]
        exact ⟨fun q => by simp at q, fun _ => o2⟩
      · simp only [fs_ne c]; exact o u
    · unfold QF at *
      simp only [fs_ne c]
      rcases q with q | q | q
      · exact .inl q
      · exact .inr (.inl q)
      · have := (q.2 t ht).1
        rw [he] at this; simp at this
  | false =>
    cases hx : s.X t with
    | some x =>
      obtain ⟨x1, x2, x3⟩ := i.x t x hx
      obtain ⟨w1, w2, w3⟩ := wmF_step (w := s.N x.slot) x1 x2 x3
      rw [goF_w he hx]
      refine ⟨⟨one_of fun u => ?_, fun u y hy => ?_⟩, ?_, fun u c => by unfold mtF; simp only [fs_ne c], fun q => ?_, fun u c q => ?_⟩
      · by_cases c : u = t
        · subst c
          have hn : ¬ s.N u % 2 = 1 := fun q => by rw [(o u).2 q] at hx; simp at hx
          exact ⟨fun q => by have q' : s.E u = true := q; rw [he] at q'; simp at q', fun q => absurd q hn⟩
        · have := o u
          refine ⟨fun q => ⟨(this.1 q).1, (fs_ne c).trans (this.1 q).2⟩, fun q => (fs_ne c).trans (this.2 q)⟩
      · by_cases c : u = t
        · subst c
          have hy' : fs s.X u _ u = some y := hy
          rw [fs_same] at hy'
          exact w3 y hy'
        · have hy' : fs s.X t _ u = some y := hy
          rw [fs_ne c] at hy'
          exact i.x u y hy'
      · unfold mtF
        simp only [fs_same, hx]
        omega
      · unfold QF at q
        rcases q with q | q | q
        · rw [he] at q; simp at q
        · rw [(o t).2 q] at hx; simp at hx
        · have := w2 (q.2 x.slot x1).2
          unfold mtF
          simp only [fs_same, hx]
          omega
      · unfold QF at *
        simp only [fs_ne c]
        exact q
    | none =>
      have hn : s.N t % 2 = 1 := by
        rcases hb with q | q | q
        · rw [he] at q; simp at q
        · rw [hx] at q; simp at q
        · exact q
      rw [goF_x he hx hn]
      have hm : mtF ({ s with N := fs s.N t (s.N t + 1) } : FS) t < mtF s t := by
        unfold mtF
        simp only [fs_same]
        omega
      refine ⟨⟨one_of fun u => ?_, i.x⟩, Nat.le_of_lt hm, fun u c => by unfold mtF; simp only [fs_ne c], fun _ => hm, fun u c q => ?_⟩
      · by_cases c : u = t
        · subst c
          simp only [fs_same]
          exact ⟨fun q => by rw [he] at q; simp at q, fun _ => hx⟩
        · simp only [fs_ne c]; exact o u
      · unfold QF at *
        simp only [fs_ne c]
        rcases q with q | q | q
        · exact .inl q
        · exact .inr (.inl q)
        · have := (q.2 t ht).2
          omega
theorem liveF : engF.Live IF mtF QF := by
  refine ⟨fun s t i ht hb => (goF_cases i ht hb).1, fun s t u i ht hu hb => ?_, fun s t u i q hu c hb => (goF_cases i hu hb).2.2.2.2 t c.symm q, fun s t i ht q => ?_, fun s i h => ?_, fun s i => ?_⟩
  · by_cases c : u = t
    · subst c; exact (goF_cases i ht hb).2.1
    · rw [(goF_cases i ht hb).2.2.1 u c]; exact Nat.le_refl _
  · have hb : engF.busy s t = true := busyF.2 (by
      unfold QF at q
      rcases q with q | q | q
      · exact .inl q
      · exact .inr (.inr q)
      · exact .inr (.inl q.1))
    exact ⟨hb, (goF_cases i ht hb).2.2.2.1 q⟩
  · by_cases c : ∃ u, u < 6 ∧ (s.E u = true ∨ s.N u % 2 = 1)
    · obtain ⟨u, hu, hq⟩ := c
      exact ⟨u, hu, .inl (hq.imp id .inl)⟩
    · have hno : ∀ u, u < 6 → s.E u = false ∧ s.N u % 2 = 0 := fun u hu => by
        refine ⟨?_, ?_⟩
        · cases he : s.E u with
          | false => rfl
          | true => exact absurd ⟨u, hu, .inl he⟩ c
        · by_cases c2 : s.N u % 2 = 1
          · exact absurd ⟨u, hu, .inr c2⟩ c
          · omega
      obtain ⟨t, ht, hb⟩ := h
      rw [busyF] at hb
      refine ⟨t, ht, .inl (.inr (.inr ⟨?_, hno⟩))⟩
      rcases hb with q | q | q
      · rw [(hno t ht).1] at q; simp at q
      · exact q
      · have := (hno t ht).2; omega
  · have o := oneF i.one
    have hm : ∀ t, mtF s t ≤ 15 := fun t => by
      unfold mtF
      have : wmF (s.X t) ≤ 12 := by
        unfold wmF
        cases s.X t <;> simp only <;> omega
      split <;> omega
    unfold sum6
    have h0 := hm 0; have h1 := hm 1; have h2 := hm 2; have h3 := hm 3; have h4 := hm 4; have h5 := hm 5
    omega
end Go.Proofs.YtlnglgpipkmiaaaGreat
set_option linter.unusedVariables false
set_option linter.unusedSimpArgs false
namespace Go.Proofs.YtlnglgpipkmiaaaGreat
open Go.Am
structure IE (s : ES) : Prop where
  one : One engE s
  x : ∀ t y st, s.X t = some (y, st) → y.slot < 6 ∧ y.st < 3 ∧ (y.st ≠ 0 → y.seen.tmod 2 = 1)
def wmE : Option (EW × Nat) → Nat
  | none => 0
  | some x => 3 * (6 - x.1.slot) - x.1.st
def emE (x : Nat) : Nat := if x = 0 then 0 else if x = 1 then 3 else 2
def mtE (s : ES) (t : Nat) : Nat := emE (s.E t) + s.N t % 2 + wmE (s.X t)
def QE (t : Nat) (s : ES) : Prop := s.E t ≠ 0 ∨ s.N t % 2 = 1 ∨ ((s.X t).isSome = true ∧ ∀ u, u < 6 → s.E u = 0 ∧ s.N u % 2 = 0)
theorem busyE {s : ES} {t : Nat} : engE.busy s t = true ↔ s.E t ≠ 0 ∨ (s.X t).isSome = true ∨ s.N t % 2 = 1 := by
  unfold Eng.busy
  show (decide (s.E t ≠ 0) || (s.X t).isSome || decide (s.N t % 2 = 1)) = true ↔ _
  simp only [Bool.or_eq_true, decide_eq_true_eq, or_assoc]
theorem goE_e {s : ES} {t : Nat} (h : s.E t ≠ 0) : engE.go s t = if s.E t = 1 then { s with V := fs s.V t (s.A t), E := fs s.E t 2 } else { s with N := fs s.N t (s.N t + 1), E := fs s.E t 0 } := by unfold Eng.go; exact if_pos (decide_eq_true h)
theorem goE_w {s : ES} {t st : Nat} {x : EW} (h : s.E t = 0) (hx : s.X t = some (x, st)) : engE.go s t = { s with X := fs s.X t (if (x.step 6 st (s.word x)).st = 3 then none else some (x.step 6 st (s.word x), st)) } := by
  unfold Eng.go
  rw [if_neg (show ¬ decide (s.E t ≠ 0) = true by rw [h]; simp), if_pos (show (s.X t).isSome = true by rw [hx]; rfl)]
  exact engE_wstep hx
theorem goE_x {s : ES} {t : Nat} (h : s.E t = 0) (hx : s.X t = none) (hn : s.N t % 2 = 1) : engE.go s t = { s with N := fs s.N t (s.N t + 1) } := by
  unfold Eng.go
  rw [if_neg (show ¬ decide (s.E t ≠ 0) = true by rw [h]; simp), if_neg (show ¬ (s.X t).isSome = true by rw [hx]; simp)]
  exact if_pos (decide_eq_true hn)
theorem wmE_step {s : ES} {x : EW} {st : Nat} (h : x.slot < 6) (he : x.st < 3) (ha : x.st ≠ 0 → x.seen.tmod 2 = 1) :
    wmE (if (x.step 6 st (s.word x)).st = 3 then none else some (x.step 6 st (s.word x), st)) ≤ wmE (some (x, st)) ∧ (s.N x.slot % 2 = 0 → wmE (if (x.step 6 st (s.word x)).st = 3 then none else some (x.step 6 st (s.word x), st)) < wmE (some (x, st))) ∧ ∀ y s2, (if (x.step 6 st (s.word x)).st = 3 then none else some (x.step 6 st (s.word x), st)) = some (y, s2) → y.slot < 6 ∧ y.st < 3 ∧ (y.st ≠ 0 → y.seen.tmod 2 = 1) := by
  have nx : ∀ z : EW, z.slot = x.slot → (wmE (if (z.next 6).st = 3 then none else some (z.next 6, st)) < wmE (some (x, st))) ∧ ∀ y s2, (if (z.next 6).st = 3 then none else some (z.next 6, st)) = some (y, s2) → y.slot < 6 ∧ y.st < 3 ∧ (y.st ≠ 0 → y.seen.tmod 2 = 1) := fun z hz => by
    unfold EW.next
    by_cases c : z.slot + 1 = 6
    · simp only [c, if_true]
      refine ⟨?_, fun y s2 hy => by simp at hy⟩
      unfold wmE; simp only; omega
    · simp only [c, if_false]
      rw [if_neg (by omega)]
      refine ⟨?_, fun y s2 hy => ?_⟩
      · unfold wmE; simp only; omega
      · obtain ⟨rfl, rfl⟩ := Prod.mk.inj (Option.some.inj hy)
        exact ⟨by show z.slot + 1 < 6; omega, by show 0 < 3; omega, fun q => absurd rfl q⟩
  by_cases c0 : x.st = 0
  · have hw : s.word x = s.N x.slot := if_neg (by omega)
    have ht : ((s.N x.slot : Nat) : Int).tmod 2 = ((s.N x.slot % 2 : Nat) : Int) := rfl
    unfold EW.step
    rw [if_pos c0, hw, ht]
    by_cases c : s.N x.slot % 2 = 1
    · rw [if_pos (show ((s.N x.slot % 2 : Nat) : Int) = 1 by omega), if_neg (by simp)]
      refine ⟨by unfold wmE; simp only; omega, fun q => by omega, fun y s2 hy => ?_⟩
      obtain ⟨rfl, rfl⟩ := Prod.mk.inj (Option.some.inj hy)
      exact ⟨h, by show 1 < 3; omega, fun _ => by show ((s.N x.slot : Nat) : Int).tmod 2 = 1; rw [ht]; omega⟩
    · rw [if_neg (show ¬ ((s.N x.slot % 2 : Nat) : Int) = 1 by omega)]
      have n := nx ⟨x.slot, s.N x.slot, 0⟩ rfl
      exact ⟨Nat.le_of_lt n.1, fun _ => n.1, n.2⟩
  · by_cases c1 : x.st = 1
    · unfold EW.step
      rw [if_neg c0, if_pos c1]
      split
      · rw [if_neg (by simp)]
        refine ⟨by unfold wmE; simp only; omega, fun q => by unfold wmE; simp only; omega, fun y s2 hy => ?_⟩
        obtain ⟨rfl, rfl⟩ := Prod.mk.inj (Option.some.inj hy)
        exact ⟨h, by show 2 < 3; omega, fun _ => ha c0⟩
      · have n := nx x rfl
        exact ⟨Nat.le_of_lt n.1, fun _ => n.1, n.2⟩
    · have hw : s.word x = s.N x.slot := if_neg c1
      have ht : ((s.N x.slot : Nat) : Int).tmod 2 = ((s.N x.slot % 2 : Nat) : Int) := rfl
      unfold EW.step
      rw [if_neg c0, if_neg c1, hw]
      split
      · rename_i cs
        rw [if_neg (by omega)]
        refine ⟨Nat.le_refl _, fun q => ?_, fun y s2 hy => ?_⟩
        · have := ha c0
          rw [← cs, ht] at this
          omega
        · obtain ⟨rfl, rfl⟩ := Prod.mk.inj (Option.some.inj hy)
          exact ⟨h, he, ha⟩
      · have n := nx x rfl
        exact ⟨Nat.le_of_lt n.1, fun _ => n.1, n.2⟩
theorem oneE {s : ES} (o : One engE s) (t : Nat) : (s.E t ≠ 0 → s.N t % 2 = 0 ∧ s.X t = none) ∧ (s.N t % 2 = 1 → s.X t = none) := by
  have h := o t
  refine ⟨fun q => ?_, fun q => ?_⟩
  · have := h.1 (decide_eq_true q)
    exact ⟨by have h1 : decide (s.N t % 2 = 1) = false := this.1; simp at h1; omega, by have h2 : (s.X t).isSome = false := this.2; simpa using h2⟩
  · have h2 : (s.X t).isSome = false := h.2 (decide_eq_true q)
    simpa using h2
theorem one_ofE {s : ES} (h : ∀ t, (s.E t ≠ 0 → s.N t % 2 = 0 ∧ s.X t = none) ∧ (s.N t % 2 = 1 → s.X t = none)) : One engE s := fun t =>
  ⟨fun q => by
    have q' : decide (s.E t ≠ 0) = true := q
    have q2 : s.E t ≠ 0 := by simpa using q'
    exact ⟨decide_eq_false (by have := ((h t).1 q2).1; omega), by show (s.X t).isSome = false; rw [((h t).1 q2).2]; rfl⟩, fun q => by
    have q' : decide (s.N t % 2 = 1) = true := q
    show (s.X t).isSome = false
    rw [(h t).2 (by simpa using q')]; rfl⟩
theorem goE_cases {s : ES} {t : Nat} (i : IE s) (ht : t < 6) (hb : engE.busy s t = true) : IE (engE.go s t) ∧ mtE (engE.go s t) t ≤ mtE s t ∧ (∀ u, u ≠ t → mtE (engE.go s t) u = mtE s u) ∧ (QE t s → mtE (engE.go s t) t < mtE s t) ∧ ∀ u, u ≠ t → QE u s → QE u (engE.go s t) := by
  have o := oneE i.one
  rw [busyE] at hb
  by_cases he : s.E t = 0
  · cases hx : s.X t with
    | some xs =>
      obtain ⟨x, st⟩ := xs
      obtain ⟨x1, x2, x3⟩ := i.x t x st hx
      obtain ⟨w1, w2, w3⟩ := wmE_step (s := s) (st := st) x1 x2 x3
      rw [goE_w he hx]
      refine ⟨⟨one_ofE fun u => ?_, fun u y s2 hy => ?_⟩, ?_, fun u c => by unfold mtE; simp only [fs_ne c], fun q => ?_, fun u c q => ?_⟩
      · by_cases c : u = t
        · subst c
          have hn : ¬ s.N u % 2 = 1 := fun q => by rw [(o u).2 q] at hx; simp at hx
          exact ⟨fun q => absurd he q, fun q => absurd q hn⟩
        · have := o u
          refine ⟨fun q => ⟨(this.1 q).1, (fs_ne c).trans (this.1 q).2⟩, fun q => (fs_ne c).trans (this.2 q)⟩
      · by_cases c : u = t
        · subst c
          have hy' : fs s.X u _ u = some (y, s2) := hy
          rw [fs_same] at hy'
          exact w3 y s2 hy'
        · have hy' : fs s.X t _ u = some (y, s2) := hy
          rw [fs_ne c] at hy'
          exact i.x u y s2 hy'
      · unfold mtE
        simp only [fs_same, hx]
        omega
      · unfold QE at q
        rcases q with q | q | q
        · exact absurd he q
        · rw [(o t).2 q] at hx; simp at hx
        · have := w2 (q.2 x.slot x1).2
          unfold mtE
          simp only [fs_same, hx]
          omega
      · unfold QE at *
        simp only [fs_ne c]
        exact q
    | none =>
      have hn : s.N t % 2 = 1 := by
        rcases hb with q | q | q
        · exact absurd he q
        · rw [hx] at q; simp at q
        · exact q
      rw [goE_x he hx hn]
      have hm : mtE ({ s with N := fs s.N t (s.N t + 1) } : ES) t < mtE s t := by
        unfold mtE
        simp only [fs_same]
        omega
      refine ⟨⟨one_ofE fun u => ?_, i.x⟩, Nat.le_of_lt hm, fun u c => by unfold mtE; simp only [fs_ne c], fun _ => hm, fun u c q => ?_⟩
      · by_cases c : u = t
        · subst c
          simp only [fs_same]
          exact ⟨fun q => absurd he q, fun _ => hx⟩
        · simp only [fs_ne c]; exact o u
      · unfold QE at *
        simp only [fs_ne c]
        rcases q with q | q | q
        · exact .inl q
        · exact .inr (.inl q)
        · have := (q.2 t ht).2
          omega
  · obtain ⟨o1, o2⟩ := (o t).1 he
    rw [goE_e he]
    by_cases c1 : s.E t = 1
    · rw [if_pos c1]
      have hm : mtE ({ s with V := fs s.V t (s.A t), E := fs s.E t 2 } : ES) t < mtE s t := by
        unfold mtE
        simp only [fs_same, c1, o2]
        simp only [emE, wmE]
        simp
      refine ⟨⟨one_ofE fun u => ?_, i.x⟩, Nat.le_of_lt hm, fun u c => by unfold mtE; simp only [fs_ne c], fun _ => hm, fun u c q => ?_⟩
      · by_cases c : u = t
        · subst c; exact ⟨fun _ => ⟨o1, o2⟩, (o u).2⟩
        · simp only [fs_ne c]; exact o u
      · unfold QE at *
        simp only [fs_ne c]
        rcases q with q | q | q
        · exact .inl q
        · exact .inr (.inl q)
        · exact absurd (q.2 t ht).1 he
    · rw [if_neg c1]
      have hm : mtE ({ s with N := fs s.N t (s.N t + 1), E := fs s.E t 0 } : ES) t < mtE s t := by
        unfold mtE
        simp only [fs_same, o2]
        simp only [emE, wmE, if_neg he, if_neg c1, if_true]
        omega
      refine ⟨⟨one_ofE fun u => ?_, i.x⟩, Nat.le_of_lt hm, fun u c => by unfold mtE; simp only [fs_ne c], fun _ => hm, fun u c q => ?_⟩
      · by_cases c : u = t
        · subst c
          simp only [fs_same]
          exact ⟨fun q => absurd rfl q, fun _ => o2⟩
        · simp only [fs_ne c]; exact o u
      · unfold QE at *
        simp only [fs_ne c]
        rcases q with q | q | q
        · exact .inl q
        · exact .inr (.inl q)
        · exact absurd (q.2 t ht).1 he
theorem liveE : engE.Live IE mtE QE := by
  refine ⟨fun s t i ht hb => (goE_cases i ht hb).1, fun s t u i ht hu hb => ?_, fun s t u i q hu c hb => (goE_cases i hu hb).2.2.2.2 t c.symm q, fun s t i ht q => ?_, fun s i h => ?_, fun s i => ?_⟩
  · by_cases c : u = t
    · subst c; exact (goE_cases i ht hb).2.1
    · rw [(goE_cases i ht hb).2.2.1 u c]; exact Nat.le_refl _
  · have hb : engE.busy s t = true := busyE.2 (by
      unfold QE at q
      rcases q with q | q | q
      · exact .inl q
      · exact .inr (.inr q)
      · exact .inr (.inl q.1))
    exact ⟨hb, (goE_cases i ht hb).2.2.2.1 q⟩
  · by_cases c : ∃ u, u < 6 ∧ (s.E u ≠ 0 ∨ s.N u % 2 = 1)
    · obtain ⟨u, hu, hq⟩ := c
      exact ⟨u, hu, .inl (hq.imp id .inl)⟩
    · have hno : ∀ u, u < 6 → s.E u = 0 ∧ s.N u % 2 = 0 := fun u hu => by
        refine ⟨?_, ?_⟩
        · by_cases he : s.E u = 0
          · exact he
          · exact absurd ⟨u, hu, .inl he⟩ c
        · by_cases c2 : s.N u % 2 = 1
          · exact absurd ⟨u, hu, .inr c2⟩ c
          · omega
      obtain ⟨t, ht, hb⟩ := h
      rw [busyE] at hb
      refine ⟨t, ht, .inl (.inr (.inr ⟨?_, hno⟩))⟩
      rcases hb with q | q | q
      · exact absurd (hno t ht).1 q
      · exact q
      · have := (hno t ht).2; omega
  · have hm : ∀ t, mtE s t ≤ 22 := fun t => by
      unfold mtE
      have h1 : wmE (s.X t) ≤ 18 := by
        unfold wmE
        cases s.X t <;> simp only <;> omega
      have h2 : emE (s.E t) ≤ 3 := by unfold emE; split <;> (try split) <;> omega
      omega
    unfold sum6
    have h0 := hm 0; have h1 := hm 1; have h2 := hm 2; have h3 := hm 3; have h4 := hm 4; have h5 := hm 5
    omega
end Go.Proofs.YtlnglgpipkmiaaaGreat
set_option linter.unusedVariables false
set_option linter.unusedSimpArgs false
namespace Go.Proofs.YtlnglgpipkmiaaaGreat
open Go.Am
structure IG (nb : Nat) (s : GS) : Prop where
  one : One (engG nb) s
  x : ∀ t y, s.X t = some y → ∃ b r, y.left = b :: r ∧ y.ph ≤ 5 ∧ y.left.length ≤ nb ∧ (1 ≤ y.ph → s.K b = some t)
  k : ∀ b t, s.K b = some t → t < 6 ∧ ∃ r ph sd, s.X t = some ⟨b :: r, ph, sd⟩ ∧ 1 ≤ ph
def wmG : Option GW → Nat
  | none => 0
  | some x => 6 * x.left.length - x.ph
def smG : GSec → Nat
  | .no => 0
  | .beg _ => 3
  | .seen _ _ => 2
  | .inn _ _ => 1
def mtG (s : GS) (t : Nat) : Nat := smG (s.S t) + wmG (s.X t)
def QG (t : Nat) (s : GS) : Prop := s.S t ≠ .no ∨ ((∀ u, u < 6 → s.S u = .no) ∧ ∃ b r ph sd, s.X t = some ⟨b :: r, ph, sd⟩ ∧ 1 ≤ ph)
theorem sec_no {g : GSec} : g ≠ .no ↔ g.ent = true ∨ g.isIn = true := by cases g <;> simp [GSec.ent, GSec.isIn]
theorem busyG {nb : Nat} {s : GS} {t : Nat} : (engG nb).busy s t = true ↔ s.S t ≠ .no ∨ (s.X t).isSome = true := by
  unfold Eng.busy
  show ((s.S t).ent || (s.X t).isSome || (s.S t).isIn) = true ↔ _
  rw [sec_no]
  simp only [Bool.or_eq_true]
  constructor
  · rintro ((q | q) | q)
    · exact .inl (.inl q)
    · exact .inr q
    · exact .inl (.inr q)
  · rintro ((q | q) | q)
    · exact .inl (.inl q)
    · exact .inr q
    · exact .inl (.inr q)
theorem goG_w {nb : Nat} {s : GS} {t : Nat} {x : GW} (h : s.S t = .no) (hx : s.X t = some x) : (engG nb).go s t = s.goW t := by
  unfold Eng.go
  rw [if_neg (show ¬ (s.S t).ent = true by rw [h]; simp [GSec.ent]), if_pos (show (s.X t).isSome = true by rw [hx]; rfl)]
def nxS (s : GS) (t : Nat) : GSec := match s.S t with
  | .beg b => .seen b (s.G b)
  | .seen b sd => .inn b sd
  | _ => .no
theorem goG_s {nb : Nat} {s : GS} {t : Nat} (h : s.S t ≠ .no) (hx : s.X t = none) : (engG nb).go s t = { s with S := fs s.S t (nxS s t) } := by
  unfold Eng.go nxS
  cases hS : s.S t with
  | no => exact absurd hS h
  | beg b =>
    rw [if_pos (show (s.S t).ent = true by rw [hS]; rfl)]
    show s.goE t = _
    unfold GS.goE; rw [hS]
  | seen b sd =>
    rw [if_pos (show (s.S t).ent = true by rw [hS]; rfl)]
    show s.goE t = _
    unfold GS.goE; rw [hS]
  | inn b sd =>
    rw [if_neg (show ¬ (s.S t).ent = true by rw [hS]; simp [GSec.ent]), if_neg (show ¬ (s.X t).isSome = true by rw [hx]; simp), if_pos (show (s.S t).isIn = true by rw [hS]; rfl)]
theorem oneG {nb : Nat} {s : GS} (o : One (engG nb) s) (t : Nat) (h : s.S t ≠ .no) : s.X t = none := by
  have h1 := o t
  rcases sec_no.1 h with q | q
  · have h2 : (s.X t).isSome = false := (h1.1 q).2
    simpa using h2
  · have h2 : (s.X t).isSome = false := h1.2 q
    simpa using h2
theorem one_ofG {nb : Nat} {s : GS} (h : ∀ t, s.S t ≠ .no → s.X t = none) : One (engG nb) s := fun t =>
  ⟨fun q => by
    have q' : (s.S t).ent = true := q
    have hn := sec_no.2 (.inl q')
    refine ⟨?_, by show (s.X t).isSome = false; rw [h t hn]; rfl⟩
    show (s.S t).isIn = false
    cases hS : s.S t <;> rw [hS] at q' <;> simp_all [GSec.ent, GSec.isIn], fun q => by
    have q' : (s.S t).isIn = true := q
    show (s.X t).isSome = false
    rw [h t (sec_no.2 (.inr q'))]; rfl⟩
theorem cnt_zero {s : GS} (h : ∀ u, u < 6 → s.S u = .no) (b : Nat) (sd : Bool) : s.cnt b sd = 0 := by
  unfold GS.cnt
  rw [List.countP_eq_zero]
  intro u hu
  have : u < 6 := by simpa using hu
  rw [h u this]; simp
theorem goW_cases {nb : Nat} {s : GS} {t b ph : Nat} {r : List Nat} {sd : Bool} (i : IG nb s) (ht : t < 6) (hx : s.X t = some ⟨b :: r, ph, sd⟩) : IG nb (s.goW t) ∧ wmG ((s.goW t).X t) ≤ wmG (s.X t) ∧ ((∀ sd, s.cnt b sd = 0) → (1 ≤ ph ∨ s.K b = none) → wmG ((s.goW t).X t) < wmG (s.X t)) ∧ (s.goW t).S = s.S ∧ ∀ u, u ≠ t → (s.goW t).X u = s.X u := by
  obtain ⟨b', r', l1, l2, l3, l4⟩ := i.x t _ hx
  obtain ⟨rfl, rfl⟩ := List.cons.inj l1
  simp only at l2 l3 l4
  have hl : 1 ≤ (b :: r).length := by simp
  have hS : s.S t = .no := by
    by_cases c : s.S t = .no
    · exact c
    · rw [oneG i.one t c] at hx; simp at hx
  have mk : ∀ (G' : Nat → Bool) (ph' : Nat) (sd' : Bool), ph' ≤ 5 → 1 ≤ ph' → s.K b = some t → IG nb ({ s with G := G', X := fs s.X t (some ⟨b :: r, ph', sd'⟩) } : GS) := fun G' ph' sd' h5 h1 hk => by
    refine ⟨one_ofG fun u hu => ?_, fun u y hy => ?_, fun b' u hb' => ?_⟩
    · have c : u ≠ t := fun q => by subst q; exact hu hS
      exact (fs_ne c).trans (oneG i.one u hu)
    · by_cases c : u = t
      · subst c
        have hy' : fs s.X u _ u = some y := hy
        rw [fs_same] at hy'
        obtain rfl := Option.some.inj hy'
        exact ⟨b, r, rfl, h5, l3, fun _ => hk⟩
      · exact i.x u y ((fs_ne c).symm.trans hy)
    · obtain ⟨k1, r2, ph2, sd2, k2, k3⟩ := i.k b' u hb'
      refine ⟨k1, ?_⟩
      by_cases c : u = t
      · subst c
        rw [hx] at k2
        obtain ⟨e1, -, -⟩ := GW.mk.inj (Option.some.inj k2)
        obtain ⟨rfl, rfl⟩ := List.cons.inj e1
        exact ⟨r, ph', sd', fs_same, h1⟩
      · exact ⟨r2, ph2, sd2, (fs_ne c).trans k2, k3⟩
  have e : s.goW t = if ph = 0 then (if s.K b = none then { s with K := fs s.K b (some t), X := fs s.X t (some ⟨b :: r, 1, sd⟩) } else s)
      else if ph = 1 then { s with X := fs s.X t (some ⟨b :: r, 2, s.G b⟩) }
      else if ph = 2 then (if s.cnt b (!sd) = 0 then { s with X := fs s.X t (some ⟨b :: r, 3, sd⟩) } else s)
      else if ph = 3 then { s with G := fs s.G b (!sd), X := fs s.X t (some ⟨b :: r, 4, sd⟩) }
      else if ph = 4 then (if s.cnt b sd = 0 then { s with X := fs s.X t (some ⟨b :: r, 5, sd⟩) } else s)
      else { s with K := fs s.K b none, X := fs s.X t (if r = [] then none else some ⟨r, 0, sd⟩) } := by
    unfold GS.goW; rw [hx]
  have wx : wmG (s.X t) = 6 * (r.length + 1) - ph := by rw [hx]; rfl
  have wn : ∀ p q, wmG (some ⟨b :: r, p, q⟩) = 6 * (r.length + 1) - p := fun p q => rfl
  refine ⟨?_, ?_, ?_, goW_S, fun u c => goW_other c⟩
  · rw [e]
    by_cases c0 : ph = 0
    · rw [if_pos c0]
      split
      · rename_i hK
        refine ⟨one_ofG fun u hu => ?_, fun u y hy => ?_, fun b' u hb' => ?_⟩
        · have c : u ≠ t := fun q => by subst q; exact hu hS
          exact (fs_ne c).trans (oneG i.one u hu)
        · by_cases c : u = t
          · subst c
            have hy' : fs s.X u _ u = some y := hy
            rw [fs_same] at hy'
            obtain rfl := Option.some.inj hy'
            exact ⟨b, r, rfl, by show 1 ≤ 5; omega, l3, fun _ => fs_same⟩
          · obtain ⟨b2, r2, m1, m2, m3, m4⟩ := i.x u y ((fs_ne c).symm.trans hy)
            refine ⟨b2, r2, m1, m2, m3, fun q => ?_⟩
            have := m4 q
            exact (fs_ne (fun q => by rw [q, hK] at this; simp at this)).trans this
        · have hb2 : fs s.K b (some t) b' = some u := hb'
          by_cases cb : b' = b
          · subst cb
            rw [fs_same] at hb2
            obtain rfl := Option.some.inj hb2
            exact ⟨ht, r, 1, sd, fs_same, Nat.le_refl _⟩
          · rw [fs_ne cb] at hb2
            obtain ⟨k1, r2, ph2, sd2, k2, k3⟩ := i.k b' u hb2
            have c : u ≠ t := fun q => by
              subst q
              rw [hx] at k2
              obtain ⟨e1, e2, -⟩ := GW.mk.inj (Option.some.inj k2)
              omega
            exact ⟨k1, r2, ph2, sd2, (fs_ne c).trans k2, k3⟩
      · exact i
    rw [if_neg c0]
    have hk := l4 (by omega)
    by_cases c1 : ph = 1
    · rw [if_pos c1]; exact mk s.G 2 _ (by omega) (by omega) hk
    rw [if_neg c1]
    by_cases c2 : ph = 2
    · rw [if_pos c2]
      split
      · exact mk s.G 3 _ (by omega) (by omega) hk
      · exact i
    rw [if_neg c2]
    by_cases c3 : ph = 3
    · rw [if_pos c3]; exact mk _ 4 _ (by omega) (by omega) hk
    rw [if_neg c3]
    by_cases c4 : ph = 4
    · rw [if_pos c4]
      split
      · exact mk s.G 5 _ (by omega) (by omega) hk
      · exact i
    rw [if_neg c4]
    refine ⟨one_ofG fun u hu => ?_, fun u y hy => ?_, fun b' u hb' => ?_⟩
    · have c : u ≠ t := fun q => by subst q; exact hu hS
      exact (fs_ne c).trans (oneG i.one u hu)
    · by_cases c : u = t
      · subst c
        have hy' : fs s.X u _ u = some y := hy
        rw [fs_same] at hy'
        cases r with
        | nil => simp at hy'
        | cons b2 r2 =>
          rw [if_neg (by simp)] at hy'
          obtain rfl := Option.some.inj hy'
          exact ⟨b2, r2, rfl, by show 0 ≤ 5; omega, by simp at l3 ⊢; omega, fun q => absurd q (Nat.not_succ_le_zero 0)⟩
      · obtain ⟨b2, r2, m1, m2, m3, m4⟩ := i.x u y ((fs_ne c).symm.trans hy)
        refine ⟨b2, r2, m1, m2, m3, fun q => ?_⟩
        have := m4 q
        exact (fs_ne (fun q => by rw [q, hk] at this; exact c (Option.some.inj this).symm)).trans this
    · have hb2 : fs s.K b none b' = some u := hb'
      have cb : b' ≠ b := fun q => by subst q; rw [fs_same] at hb2; simp at hb2
      rw [fs_ne cb] at hb2
      obtain ⟨k1, r2, ph2, sd2, k2, k3⟩ := i.k b' u hb2
      have c : u ≠ t := fun q => by
        subst q
        rw [hx] at k2
        obtain ⟨e1, -, -⟩ := GW.mk.inj (Option.some.inj k2)
        obtain ⟨rfl, -⟩ := List.cons.inj e1
        exact cb rfl
      exact ⟨k1, r2, ph2, sd2, (fs_ne c).trans k2, k3⟩
  · rw [e, wx]
    by_cases c0 : ph = 0
    · rw [if_pos c0]
      split
      · simp only [fs_same]; rw [wn]; omega
      · rw [wx]; exact Nat.le_refl _
    rw [if_neg c0]
    by_cases c1 : ph = 1
    · rw [if_pos c1]; simp only [fs_same]; rw [wn]; omega
    rw [if_neg c1]
    by_cases c2 : ph = 2
    · rw [if_pos c2]
      split
      · simp only [fs_same]; rw [wn]; omega
      · rw [wx]; exact Nat.le_refl _
    rw [if_neg c2]
    by_cases c3 : ph = 3
    · rw [if_pos c3]; simp only [fs_same]; rw [wn]; omega
    rw [if_neg c3]
    by_cases c4 : ph = 4
    · rw [if_pos c4]
      split
      · simp only [fs_same]; rw [wn]; omega
      · rw [wx]; exact Nat.le_refl _
    rw [if_neg c4]
    simp only [fs_same]
    cases r with
    | nil => exact Nat.zero_le _
    | cons b2 r2 =>
      rw [if_neg (by simp)]
      show 6 * (r2.length + 1) - 0 ≤ 6 * (r2.length + 1 + 1) - ph
      omega
  · intro hno hp
    rw [e, wx]
    by_cases c0 : ph = 0
    · rw [if_pos c0, if_pos (hp.resolve_left (by omega))]; simp only [fs_same]; rw [wn]; omega
    rw [if_neg c0]
    by_cases c1 : ph = 1
    · rw [if_pos c1]; simp only [fs_same]; rw [wn]; omega
    rw [if_neg c1]
    by_cases c2 : ph = 2
    · rw [if_pos c2, if_pos (hno _)]; simp only [fs_same]; rw [wn]; omega
    rw [if_neg c2]
    by_cases c3 : ph = 3
    · rw [if_pos c3]; simp only [fs_same]; rw [wn]; omega
    rw [if_neg c3]
    by_cases c4 : ph = 4
    · rw [if_pos c4, if_pos (hno _)]; simp only [fs_same]; rw [wn]; omega
    rw [if_neg c4]
    simp only [fs_same]
    cases r with
    | nil =>
      show 0 < 6 * (0 + 1) - ph
      omega
    | cons b2 r2 =>
      rw [if_neg (by simp)]
      show 6 * (r2.length + 1) - 0 < 6 * (r2.length + 1 + 1) - ph
      omega
theorem goW_left {s : GS} {t : Nat} {x y : GW} (hx : s.X t = some x) (hy : (s.goW t).X t = some y) : ∀ b ∈ y.left, b ∈ x.left := by
  obtain ⟨lf, ph, sd⟩ := x
  cases lf with
  | nil =>
    have e : s.goW t = s := by unfold GS.goW; rw [hx]
    rw [e, hx] at hy
    obtain rfl := Option.some.inj hy
    exact fun b hb => hb
  | cons b r =>
    unfold GS.goW at hy
    rw [hx] at hy
    simp only at hy
    repeat' split at hy
    all_goals first
      | (rw [hx] at hy; obtain rfl := Option.some.inj hy; exact fun b hb => hb)
      | (simp only [fs_same] at hy
         first
           | (obtain rfl := Option.some.inj hy; exact fun b hb => hb)
           | (obtain rfl := Option.some.inj hy; exact fun b' hb => List.mem_cons_of_mem _ hb)
           | exact absurd hy (by simp))
theorem goG_cases {nb : Nat} {s : GS} {t : Nat} (i : IG nb s) (ht : t < 6) (hb : (engG nb).busy s t = true) : IG nb ((engG nb).go s t) ∧ mtG ((engG nb).go s t) t ≤ mtG s t ∧ (∀ u, u ≠ t → mtG ((engG nb).go s t) u = mtG s u) ∧ (QG t s → mtG ((engG nb).go s t) t < mtG s t) ∧ ∀ u, u ≠ t → QG u s → QG u ((engG nb).go s t) := by
  rw [busyG] at hb
  by_cases hS : s.S t = .no
  · have hw := hb.resolve_left (fun q => q hS)
    obtain ⟨x, hx⟩ := Option.isSome_iff_exists.1 hw
    obtain ⟨b, r, l1, l2, l3, l4⟩ := i.x t x hx
    obtain ⟨lf, ph, sd⟩ := x
    simp only at l1
    subst l1
    rw [goG_w hS hx]
    obtain ⟨g1, g2, g3, g4, g5⟩ := goW_cases i ht hx
    refine ⟨g1, ?_, fun u c => ?_, fun q => ?_, fun u c q => ?_⟩
    · unfold mtG; rw [g4]; omega
    · unfold mtG; rw [g4, g5 u c]
    · unfold QG at q
      rcases q with q | ⟨q, b2, r2, ph2, sd2, q2, q3⟩
      · exact absurd hS q
      · rw [hx] at q2
        obtain ⟨-, rfl, -⟩ := GW.mk.inj (Option.some.inj q2)
        have := g3 (fun sd => cnt_zero q _ sd) (.inl q3)
        unfold mtG; rw [g4]; omega
    · unfold QG at *
      rw [g4, g5 u c]; exact q
  · have hx := oneG i.one t hS
    rw [goG_s hS hx]
    have hm : mtG ({ s with S := fs s.S t (nxS s t) } : GS) t < mtG s t := by
      unfold mtG nxS
      simp only [fs_same]
      cases h : s.S t with
      | no => exact absurd h hS
      | _ => simp [smG]
    refine ⟨⟨one_ofG fun u hu => ?_, i.x, i.k⟩, Nat.le_of_lt hm, fun u c => by unfold mtG; simp only [fs_ne c], fun _ => hm, fun u c q => ?_⟩
    · by_cases c : u = t
      · subst c; exact hx
      · have hu' : fs s.S t _ u ≠ .no := hu
        rw [fs_ne c] at hu'; exact oneG i.one u hu'
    · unfold QG at *
      simp only [fs_ne c]
      rcases q with q | ⟨q, _⟩
      · exact .inl q
      · exact absurd (q t ht) hS
theorem liveG {nb : Nat} (hnb : nb ≤ 6) : (engG nb).Live (IG nb) mtG QG := by
  refine ⟨fun s t i ht hb => (goG_cases i ht hb).1, fun s t u i ht hu hb => ?_, fun s t u i q hu c hb => (goG_cases i hu hb).2.2.2.2 t c.symm q, fun s t i ht q => ?_, fun s i h => ?_, fun s i => ?_⟩
  · by_cases c : u = t
    · subst c; exact (goG_cases i ht hb).2.1
    · rw [(goG_cases i ht hb).2.2.1 u c]; exact Nat.le_refl _
  · have hb : (engG nb).busy s t = true := busyG.2 (by
      unfold QG at q
      rcases q with q | ⟨q, b, r, ph, sd, q2, q3⟩
      · exact .inl q
      · exact .inr (by rw [q2]; rfl))
    exact ⟨hb, (goG_cases i ht hb).2.2.2.1 q⟩
  · by_cases c : ∃ u, u < 6 ∧ s.S u ≠ .no
    · obtain ⟨u, hu, hq⟩ := c
      exact ⟨u, hu, .inl (.inl hq)⟩
    · have hno : ∀ u, u < 6 → s.S u = .no := fun u hu => by
        by_cases h : s.S u = .no
        · exact h
        · exact absurd ⟨u, hu, h⟩ c
      by_cases c2 : ∃ t, t < 6 ∧ ∃ b r ph sd, s.X t = some ⟨b :: r, ph, sd⟩ ∧ 1 ≤ ph
      · obtain ⟨t, ht, q⟩ := c2
        exact ⟨t, ht, .inl (.inr ⟨hno, q⟩)⟩
      · have hK : ∀ b, s.K b = none := fun b => by
          cases hk : s.K b with
          | none => rfl
          | some u =>
            obtain ⟨k1, r2, ph2, sd2, k2, k3⟩ := i.k b u hk
            exact absurd ⟨u, k1, b, r2, ph2, sd2, k2, k3⟩ c2
        have first : ∀ n, (∃ t, t < n ∧ (engG nb).busy s t = true) → ∃ t, t < n ∧ (engG nb).busy s t = true ∧ ∀ u, u < t → (engG nb).busy s u = false := by
          intro n
          induction n with
          | zero => rintro ⟨t, ht, _⟩; omega
          | succ n ih =>
            rintro ⟨t, ht, hb⟩
            by_cases c : ∃ t, t < n ∧ (engG nb).busy s t = true
            · obtain ⟨t, a1, a2, a3⟩ := ih c
              exact ⟨t, by omega, a2, a3⟩
            · refine ⟨t, ht, hb, fun u hu => ?_⟩
              cases q : (engG nb).busy s u with
              | false => rfl
              | true => exact absurd ⟨u, by omega, q⟩ c
        obtain ⟨t, ht, hb, hf⟩ := first 6 h
        refine ⟨t, ht, .inr ⟨hb, hf, ?_⟩⟩
        have hw := (busyG.1 hb).resolve_left (fun q => q (hno t ht))
        obtain ⟨x, hx⟩ := Option.isSome_iff_exists.1 hw
        obtain ⟨b, r, l1, l2, l3, l4⟩ := i.x t x hx
        obtain ⟨lf, ph, sd⟩ := x
        simp only at l1
        subst l1
        rw [goG_w (hno t ht) hx]
        obtain ⟨g1, g2, g3, g4, g5⟩ := goW_cases i ht hx
        have := g3 (fun sd => cnt_zero hno _ sd) (.inr (hK b))
        unfold mtG; rw [g4]; omega
  · have hm : ∀ t, mtG s t ≤ 39 := fun t => by
      unfold mtG
      have h1 : wmG (s.X t) ≤ 36 := by
        cases hx : s.X t with
        | none => exact Nat.zero_le _
        | some x =>
          obtain ⟨b, r, l1, l2, l3, l4⟩ := i.x t x hx
          show 6 * x.left.length - x.ph ≤ 36
          omega
      have h2 : smG (s.S t) ≤ 3 := by cases s.S t <;> simp [smG]
      omega
    unfold sum6
    have h0 := hm 0; have h1 := hm 1; have h2 := hm 2; have h3 := hm 3; have h4 := hm 4; have h5 := hm 5
    omega
end Go.Proofs.YtlnglgpipkmiaaaGreat
