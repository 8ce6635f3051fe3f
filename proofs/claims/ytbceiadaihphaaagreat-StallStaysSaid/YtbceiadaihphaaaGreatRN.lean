/-
  A part of the proof: contracts of inner functions.
-/
import Derived.Test.YtbceiadaihphaaaGreatRX2E
import Derived.Test.YtbceiadaihphaaaGreatRX6G
set_option linter.unusedVariables false
set_option linter.unusedSimpArgs false
namespace Go.Proofs.YtbceiadaihphaaaGreat
open Go.Am
structure FaceN (e : Eng) (ns : Nat) (rep : e.σ → Nat → (Rl → Nat) → (Rl → Option ABlk) → Prop) (pcE pcW : e.σ → Nat → Int) : Prop where
  enextB : ∀ {h : PT ABlk} {n : Nat} {d : Rl → Nat} {C : Rl → Option ABlk} {s : e.σ} {k t : Nat}, St h n d C → rep s k d C → t < ns → e.ent s t = true →
    EvB Tryz.prog OP 53 [pt (d (8, t))] h n fun r h' n' => r = U8 (pcE s t) ∧ pcE s t ≠ 0 ∧ St h' n' d C
  wnextB : ∀ {h : PT ABlk} {n : Nat} {d : Rl → Nat} {C : Rl → Option ABlk} {s : e.σ} {k t : Nat}, St h n d C → rep s k d C → t < ns → e.wt s t = true →
    EvB Tryz.prog OP 54 [pt (d (10, t))] h n fun r h' n' => r = U8 (pcW s t) ∧ pcW s t ≠ 0 ∧ St h' n' d C
set_option maxRecDepth 100000 in
set_option maxHeartbeats 2000000 in
theorem faceNF {ns : Nat} : FaceN (engF ns) ns (RepF ns) (fun _ _ => 13) (fun _ _ => 17) := by
  refine ⟨fun {h n d C s k t} S R ht he => ?_, fun {h n d C s k t} S R ht he => ?_⟩
  · obtain ⟨a1, a2⟩ := R.en t ht he
    have g8 := S.at a1
    have g9 := S.at a2
    clear R a1 a2
    refine EvB_run (N := 10) Tryz.func53 rfl rfl fun z hP hO hro hN hQ => ?_
    repeat' first | simp (maxSteps := 2000000) (disch := first | omega | assumption) only [go_sem, *] | (apply xs <;> intro _) <;> try omega | refine fun (_ _ : List Nat) => ?_ | (first | refine inQ Tryz.func199 rfl ?_ ?_ ?_ ?_ | refine inQ Tryz.func201 rfl ?_ ?_ ?_ ?_ | fail) <;> intros
  · obtain ⟨x, hX⟩ := Option.isSome_iff_exists.1 (show (s.X t).isSome = true from he)
    obtain ⟨a1, a2, a3, a4⟩ := R.wa t x ht hX
    have g10 := S.at a3
    have g11 := S.at a4
    simp only [fwRow, a2, Bool.false_eq_true, if_false] at g11
    generalize (if x.again = true then _ else _) = fn at g11
    clear R a1 a2 a3 a4
    refine EvB_run (N := 10) Tryz.func54 rfl rfl fun z hP hO hro hN hQ => ?_
    repeat' first | simp (maxSteps := 2000000) (disch := first | omega | assumption) only [go_sem, *] | (apply xs <;> intro _) <;> try omega | refine fun (_ _ : List Nat) => ?_ | (first | refine inQ Tryz.func199 rfl ?_ ?_ ?_ ?_ | refine inQ Tryz.func201 rfl ?_ ?_ ?_ ?_ | fail) <;> intros
def pcEE (s : ES) (t : Nat) : Int := if s.E t = 1 then 14 else 13
def pcWE (s : ES) (t : Nat) : Int := match s.X t with
  | none => 17
  | some (x, _) => if x.st = 1 then 18 else 17
set_option maxRecDepth 100000 in
set_option maxHeartbeats 2000000 in
theorem faceNE {ns : Nat} : FaceN (engE ns) ns (RepE ns) pcEE pcWE := by
  refine ⟨fun {h n d C s k t} S R ht he => ?_, fun {h n d C s k t} S R ht he => ?_⟩
  · have he' : decide (s.E t ≠ 0) = true := he
    have he2 : s.E t ≠ 0 := by simpa using he'
    obtain ⟨a1, a2⟩ := R.en t ht he2
    obtain ⟨-, -, b3⟩ := R.ev t ht he2
    have g8 := S.at a1
    have g9 := S.at a2
    have n8 := S.lt a1
    have n9 := S.lt a2
    clear R a1 a2 he he'
    unfold pcEE
    by_cases c : s.E t = 1
    · rw [if_pos c]
      rw [c, show (((1 : Nat) : Int) - 1) = 0 from rfl] at g9
      refine EvB_run (N := 10) Tryz.func53 rfl rfl fun z hP hO hro hN hQ => ?_
      repeat' first | simp (maxSteps := 2000000) (disch := first | omega | assumption) only [go_sem, *] | (apply xs <;> intro _) <;> try omega | refine fun (_ _ : List Nat) => ?_ | (first | refine inQ Tryz.func203 rfl ?_ ?_ ?_ ?_ | refine inQ Tryz.func208 rfl ?_ ?_ ?_ ?_ | fail) <;> intros
      exact S.junk2 (Nat.le_refl _) (Nat.lt_succ_self _)
    · have c2 : s.E t = 2 := by omega
      rw [if_neg c]
      rw [c2, show (((2 : Nat) : Int) - 1) = 1 from rfl] at g9
      refine EvB_run (N := 10) Tryz.func53 rfl rfl fun z hP hO hro hN hQ => ?_
      repeat' first | simp (maxSteps := 2000000) (disch := first | omega | assumption) only [go_sem, *] | (apply xs <;> intro _) <;> try omega | refine fun (_ _ : List Nat) => ?_ | (first | refine inQ Tryz.func203 rfl ?_ ?_ ?_ ?_ | refine inQ Tryz.func208 rfl ?_ ?_ ?_ ?_ | fail) <;> intros
      exact S.junk2 (Nat.le_refl _) (Nat.lt_succ_self _)
  · obtain ⟨⟨x, st⟩, hX⟩ := Option.isSome_iff_exists.1 (show (s.X t).isSome = true from he)
    obtain ⟨a1, a2, a3, a4, a5⟩ := R.wa t x st ht hX
    have g10 := S.at a4
    have g11 := S.at a5
    have n10 := S.lt a4
    have n11 := S.lt a5
    have hp : pcWE s t = if x.st = 1 then 18 else 17 := by unfold pcWE; rw [hX]
    rw [hp]
    simp only [ewRow] at g11
    clear R a1 a3 a4 a5 he hX hp
    by_cases c0 : x.st = 0
    · rw [if_neg (by omega)]
      rw [c0, show ((0 : Nat) : Int) = 0 from rfl] at g11
      refine EvB_run (N := 10) Tryz.func54 rfl rfl fun z hP hO hro hN hQ => ?_
      repeat' first | simp (maxSteps := 2000000) (disch := first | omega | assumption) only [go_sem, *] | (apply xs <;> intro _) <;> try omega | refine fun (_ _ : List Nat) => ?_ | (first | refine inQ Tryz.func203 rfl ?_ ?_ ?_ ?_ | refine inQ Tryz.func208 rfl ?_ ?_ ?_ ?_ | fail) <;> intros
      exact S.junk2 (Nat.le_refl _) (Nat.lt_succ_self _)
    · by_cases c1 : x.st = 1
      · rw [if_pos c1]
        rw [c1, show ((1 : Nat) : Int) = 1 from rfl] at g11
        refine EvB_run (N := 10) Tryz.func54 rfl rfl fun z hP hO hro hN hQ => ?_
        repeat' first | simp (maxSteps := 2000000) (disch := first | omega | assumption) only [go_sem, *] | (apply xs <;> intro _) <;> try omega | refine fun (_ _ : List Nat) => ?_ | (first | refine inQ Tryz.func203 rfl ?_ ?_ ?_ ?_ | refine inQ Tryz.func208 rfl ?_ ?_ ?_ ?_ | fail) <;> intros
        exact S.junk2 (Nat.le_refl _) (Nat.lt_succ_self _)
      · rw [if_neg c1]
        have c2 : x.st = 2 := by omega
        rw [c2, show ((2 : Nat) : Int) = 2 from rfl] at g11
        refine EvB_run (N := 10) Tryz.func54 rfl rfl fun z hP hO hro hN hQ => ?_
        repeat' first | simp (maxSteps := 2000000) (disch := first | omega | assumption) only [go_sem, *] | (apply xs <;> intro _) <;> try omega | refine fun (_ _ : List Nat) => ?_ | (first | refine inQ Tryz.func203 rfl ?_ ?_ ?_ ?_ | refine inQ Tryz.func208 rfl ?_ ?_ ?_ ?_ | fail) <;> intros
        exact S.junk2 (Nat.le_refl _) (Nat.lt_succ_self _)
def pcEG (s : GS) (t : Nat) : Int := match s.S t with
  | .beg _ => 15
  | _ => 16
def pcWG (s : GS) (t : Nat) : Int := match s.X t with
  | none => 2
  | some x => gpc x.ph
set_option maxRecDepth 100000 in
set_option maxHeartbeats 2000000 in
theorem faceNG {ns nb : Nat} : FaceN (engG ns nb) ns (RepG ns nb) pcEG pcWG := by
  refine ⟨fun {h n d C s k t} S R ht he => ?_, fun {h n d C s k t} S R ht he => ?_⟩
  · have hrow := R.sec t ht
    have he' : (s.S t).ent = true := he
    unfold pcEG
    cases hS : s.S t with
    | no => rw [hS] at he'; simp [GSec.ent] at he'
    | inn b sd => rw [hS] at he'; simp [GSec.ent] at he'
    | beg b =>
      rw [hS] at hrow
      obtain ⟨b1, b2, b3, b4⟩ := hrow
      have g8 := S.at b2
      have g9 := S.at b3
      have g15 := S.at b4
      simp only [bkL, List.cons_append, List.nil_append] at g9
      clear R b1 b2 b3 b4 he he' hS
      refine EvB_run (N := 10) Tryz.func53 rfl rfl fun z hP hO hro hN hQ => ?_
      repeat' first | simp (maxSteps := 2000000) (disch := first | omega | assumption) only [go_sem, *] | (apply xs <;> intro _) <;> try omega | refine fun (_ _ : List Nat) => ?_ | (first | refine inQ Tryz.func215 rfl ?_ ?_ ?_ ?_ | refine inQ Tryz.func217 rfl ?_ ?_ ?_ ?_ | fail) <;> intros
    | seen b sd =>
      rw [hS] at hrow
      obtain ⟨b1, b2, b3, b4⟩ := hrow
      have g8 := S.at b2
      have g9 := S.at b3
      have g15 := S.at b4
      simp only [bkL, List.cons_append, List.nil_append] at g9
      clear R b1 b2 b3 b4 he he' hS
      generalize 4 * b + 1 + sd.toNat = q at *
      have hq : ¬ (q : Int) < 0 := by omega
      refine EvB_run (N := 10) Tryz.func53 rfl rfl fun z hP hO hro hN hQ => ?_
      repeat' first | simp (maxSteps := 2000000) (disch := first | omega | assumption) only [go_sem, *] | (apply xs <;> intro _) <;> try omega | refine fun (_ _ : List Nat) => ?_ | (first | refine inQ Tryz.func215 rfl ?_ ?_ ?_ ?_ | refine inQ Tryz.func217 rfl ?_ ?_ ?_ ?_ | fail) <;> intros
  · obtain ⟨x, hX⟩ := Option.isSome_iff_exists.1 (show (s.X t).isSome = true from he)
    obtain ⟨off, fl, Lf, b, r, w⟩ := R.wa t x ht hX
    have g10 := S.at w.r10
    have g11 := S.at w.r11
    have hp : pcWG s t = gpc x.ph := by unfold pcWG; rw [hX]
    rw [hp]
    have hp0 : gpc x.ph ≠ 0 := by
      unfold gpc
      repeat' split
      all_goals decide
    simp only [gwRow] at g11
    generalize gpc x.ph = pc at *
    generalize gfn x.ph = fn at *
    clear R w he hX hp
    refine EvB_run (N := 10) Tryz.func54 rfl rfl fun z hP hO hro hN hQ => ?_
    repeat' first | simp (maxSteps := 2000000) (disch := first | omega | assumption) only [go_sem, *] | (apply xs <;> intro _) <;> try omega | refine fun (_ _ : List Nat) => ?_ | (first | refine inQ Tryz.func215 rfl ?_ ?_ ?_ ?_ | refine inQ Tryz.func217 rfl ?_ ?_ ?_ ?_ | fail) <;> intros
end Go.Proofs.YtbceiadaihphaaaGreat
