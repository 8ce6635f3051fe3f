/-
  A part of the proof: contracts of inner functions.
-/
import Derived.Test.YtbceiadaihphaaaGreatAmV3
import Derived.Test.YtbceiadaihphaaaGreatPU7
import Derived.Test.YtbceiadaihphaaaGreatPK
import Derived.Test.YtbceiadaihphaaaGreatPG
set_option linter.unusedVariables false
set_option linter.unusedSimpArgs false
namespace Go.Proofs.YtbceiadaihphaaaGreat
open Go.Am
def fs {α : Type} (f : Nat → α) (i : Nat) (x : α) : Nat → α := fun j => if j = i then x else f j
theorem fs_same {α : Type} {f : Nat → α} {i : Nat} {x : α} : fs f i x i = x := if_pos rfl
theorem fs_ne {α : Type} {f : Nat → α} {i j : Nat} {x : α} (h : j ≠ i) : fs f i x j = f j := if_neg h
theorem fs_id {α : Type} {f : Nat → α} {i : Nat} {x : α} (h : f i = x) : fs f i x = f := by
 funext j; unfold fs; split
 ·rename_i c; rw [c, h]
 ·rfl
structure Eng where
 σ : Type
 ent : σ → Nat → Bool
 inn : σ → Nat → Bool
 wt : σ → Nat → Bool
 enter : σ → Nat → Nat → σ
 estep : σ → Nat → σ
 exit : σ → Nat → σ
 wait : σ → Nat → Nat → σ
 wstep : σ → Nat → σ
structure Eng.Fits (e : Eng) : Prop where
 enter : ∀ s t v, e.inn s t = false → (∀ u, e.ent (e.enter s t v) u = if u = t then true else e.ent s u) ∧ (∀ u, e.inn (e.enter s t v) u = e.inn s u) ∧ ∀ u, e.wt (e.enter s t v) u = e.wt s u
 estep : ∀ s t, e.ent s t = true → e.inn s t = false → (∀ u, u ≠ t → e.ent (e.estep s t) u = e.ent s u) ∧ (∀ u, e.inn (e.estep s t) u = if u = t then !e.ent (e.estep s t) t else e.inn s u) ∧ ∀ u, e.wt (e.estep s t) u = e.wt s u
 exit : ∀ s t, e.inn s t = true → (∀ u, e.ent (e.exit s t) u = e.ent s u) ∧ (∀ u, e.inn (e.exit s t) u = if u = t then false else e.inn s u) ∧ ∀ u, e.wt (e.exit s t) u = e.wt s u
 wait : ∀ s t v, (∀ u, e.ent (e.wait s t v) u = e.ent s u) ∧ (∀ u, e.inn (e.wait s t v) u = e.inn s u) ∧ ∀ u, e.wt (e.wait s t v) u = if u = t then true else e.wt s u
 wstep : ∀ s t, (∀ u, e.ent (e.wstep s t) u = e.ent s u) ∧ (∀ u, e.inn (e.wstep s t) u = e.inn s u) ∧ ∀ u, u ≠ t → e.wt (e.wstep s t) u = e.wt s u
def One (e : Eng) (s : e.σ) : Prop := ∀ t, (e.ent s t = true → e.inn s t = false ∧ e.wt s t = false) ∧ (e.inn s t = true → e.wt s t = false)
structure Eng.Grace (e : Eng) (ns : Nat) (hasv : e.σ → Nat → Nat → Prop) (guard : e.σ → Nat → Nat → Prop) : Prop where
 fits : e.Fits
 hEnter : ∀ s t v, hasv (e.enter s t v) t v
 hEnter' : ∀ s t v i w, i ≠ t → hasv s i w → hasv (e.enter s t v) i w
 hStep : ∀ s t i w, hasv s i w → hasv (e.estep s t) i w
 hExit : ∀ s t i w, i ≠ t → hasv s i w → hasv (e.exit s t) i w
 hWait : ∀ s t st i w, hasv s i w → hasv (e.wait s t st) i w
 hWstep : ∀ s t i w, hasv s i w → hasv (e.wstep s t) i w
 gEnter : ∀ s t v u i, e.wt s u = true → guard s u i → e.inn s i = true → i ≠ t → guard (e.enter s t v) u i
 gStep : ∀ s t u i, e.wt s u = true → guard s u i → e.inn s i = true → i ≠ t → guard (e.estep s t) u i
 gExit : ∀ s t u i, e.wt s u = true → guard s u i → e.inn s i = true → i ≠ t → guard (e.exit s t) u i
 gWait : ∀ s t st u i, e.wt s u = true → guard s u i → e.inn s i = true → u ≠ t → guard (e.wait s t st) u i
 gBegin : ∀ s t st i v, e.inn s i = true → e.ent s i = false → i < ns → hasv s i v → v < 64 → st < 2 ^ 64 → st.testBit v = true → guard (e.wait s t st) t i
 gWstep : ∀ s t u i, e.wt s u = true → guard s u i → e.inn s i = true → i < ns → e.wt s t = true → u ≠ t → guard (e.wstep s t) u i
 gLook : ∀ s t i v, e.wt s t = true → guard s t i → e.inn s i = true → i < ns → hasv s i v → v < 64 → e.wt (e.wstep s t) t = true ∧ guard (e.wstep s t) t i
end Go.Proofs.YtbceiadaihphaaaGreat
set_option linter.unusedVariables false
set_option linter.unusedSimpArgs false
namespace Go.Proofs.YtbceiadaihphaaaGreat
open Go.Am
structure FS where
 N : Nat → Nat
 E : Nat → Bool
 X : Nat → Option FW
abbrev engF (ns : Nat) : Eng where
 σ := FS
 ent s t := s.E t
 inn s t := decide (s.N t % 2 = 1)
 wt s t := (s.X t).isSome
 enter s t v := { s with E := fs s.E t true }
 estep s t := { s with N := fs s.N t (s.N t + 1), E := fs s.E t false }
 exit s t := { s with N := fs s.N t (s.N t + 1) }
 wait s t st := { s with X := fs s.X t (some ⟨0, false, 0, false⟩) }
 wstep s t := match s.X t with
  | none => s
  | some x => { s with X := fs s.X t (if (x.step ns (s.N x.slot)).ended = true then none else some (x.step ns (s.N x.slot))) }
theorem engF_wstep {ns : Nat} {s : FS} {t : Nat} {x : FW} (h : s.X t = some x) : (engF ns).wstep s t = { s with X := fs s.X t (if (x.step ns (s.N x.slot)).ended = true then none else some (x.step ns (s.N x.slot))) } := by
 show (match s.X t with | none => s | some x => _) = _
 rw [h]
theorem engF_wstep0 {ns : Nat} {s : FS} {t : Nat} (h : s.X t = none) : (engF ns).wstep s t = s := by
 show (match s.X t with | none => s | some x => _) = _
 rw [h]
theorem engF_fits (ns : Nat) : (engF ns).Fits := by
 refine ⟨fun s t v _ => ⟨fun u => rfl, fun u => rfl, fun u => rfl⟩, fun s t h1 h2 => ⟨fun u c => fs_ne c, fun u => ?_, fun u => rfl⟩, fun s t h => ⟨fun u => rfl, fun u => ?_, fun u => rfl⟩, fun s t v => ⟨fun u => rfl, fun u => rfl, fun u => ?_⟩, fun s t => ?_⟩
 ·have h2' : decide (s.N t % 2 = 1) = false := h2
  show decide (fs s.N t (s.N t + 1) u % 2 = 1) = if u = t then !(fs s.E t false t) else decide (s.N u % 2 = 1)
  by_cases c : u = t
  ·subst c
   rw [if_pos rfl, fs_same, fs_same]
   simp only [decide_eq_false_iff_not] at h2'
   simp only [Bool.not_false, decide_eq_true_eq]
   omega
  ·rw [if_neg c, fs_ne c]
 ·have h' : decide (s.N t % 2 = 1) = true := h
  show decide (fs s.N t (s.N t + 1) u % 2 = 1) = if u = t then false else decide (s.N u % 2 = 1)
  by_cases c : u = t
  ·subst c
   rw [if_pos rfl, fs_same]
   simp only [decide_eq_true_eq] at h'
   simp only [decide_eq_false_iff_not]
   omega
  ·rw [if_neg c, fs_ne c]
 ·show (fs s.X t _ u).isSome = if u = t then true else (s.X u).isSome
  by_cases c : u = t
  ·subst c; rw [if_pos rfl, fs_same]; rfl
  ·rw [if_neg c, fs_ne c]
 ·cases hx : s.X t with
  | none => rw [engF_wstep0 hx]; exact ⟨fun u => rfl, fun u => rfl, fun u _ => rfl⟩
  | some x =>
   rw [engF_wstep hx]
   exact ⟨fun u => rfl, fun u => rfl, fun u c => by show (fs s.X t _ u).isSome = _; rw [fs_ne c]⟩
def guardF (s : FS) (u i : Nat) : Prop := ∃ x, s.X u = some x ∧ x.ended = false ∧ (x.slot < i ∨ x.slot = i ∧ (x.again = true → x.first = s.N i))
theorem graceF (ns : Nat) : (engF ns).Grace ns (fun _ _ _ => True) guardF := by
 refine ⟨engF_fits ns, fun _ _ _ => trivial, fun _ _ _ _ _ _ _ => trivial, fun _ _ _ _ _ => trivial, fun _ _ _ _ _ _ => trivial, fun _ _ _ _ _ _ => trivial, fun _ _ _ _ _ => trivial, fun s t v u i h1 h2 h3 h4 => h2, fun s t u i h1 h2 h3 h4 => ?_, fun s t u i h1 h2 h3 h4 => ?_, fun s t st u i h1 h2 h3 h4 => ?_, fun s t st i v h1 h2 h3 h4 h5 h6 h7 => ?_, fun s t u i h1 h2 h3 h4 h5 h6 => ?_, fun s t i v h1 h2 h3 h4 h5 h6 => ?_⟩
 ·obtain ⟨x, q1, q0, q2⟩ := h2
  exact ⟨x, q1, q0, q2.imp id fun q => ⟨q.1, fun a => by rw [q.2 a]; show _ = ((fs s.N t _ i : Nat) : Int); rw [fs_ne h4]⟩⟩
 ·obtain ⟨x, q1, q0, q2⟩ := h2
  exact ⟨x, q1, q0, q2.imp id fun q => ⟨q.1, fun a => by rw [q.2 a]; show _ = ((fs s.N t _ i : Nat) : Int); rw [fs_ne h4]⟩⟩
 ·obtain ⟨x, q1, q0, q2⟩ := h2
  exact ⟨x, (fs_ne h4).trans q1, q0, q2⟩
 ·refine ⟨_, fs_same, rfl, ?_⟩
  by_cases c : i = 0
  ·exact .inr ⟨c.symm, fun a => by simp at a⟩
  ·exact .inl (by show 0 < i; omega)
 ·obtain ⟨x, q1, q0, q2⟩ := h2
  cases hx : s.X t with
  | none => rw [engF_wstep0 hx]; exact ⟨x, q1, q0, q2⟩
  | some y => rw [engF_wstep hx]; exact ⟨x, (fs_ne h6).trans q1, q0, q2⟩
 ·obtain ⟨x, q1, q0, q2⟩ := h2
  have h3' : decide (s.N i % 2 = 1) = true := h3
  simp only [decide_eq_true_eq] at h3'
  rw [engF_wstep q1]
  have key : (x.step ns (s.N x.slot)).ended = false ∧ ((x.step ns (s.N x.slot)).slot < i ∨ (x.step ns (s.N x.slot)).slot = i ∧ ((x.step ns (s.N x.slot)).again = true → (x.step ns (s.N x.slot)).first = s.N i)) := by
   unfold FW.step FW.next
   rcases q2 with c | ⟨c, ha⟩
   ·split
    ·split
     ·exact ⟨q0, .inl c⟩
     ·refine ⟨decide_eq_false (by omega), ?_⟩
      by_cases c2 : x.slot + 1 = i
      ·exact .inr ⟨c2, fun a => by simp at a⟩
      ·exact .inl (by show x.slot + 1 < i; omega)
    ·split
     ·refine ⟨decide_eq_false (by omega), ?_⟩
      by_cases c2 : x.slot + 1 = i
      ·exact .inr ⟨c2, fun a => by simp at a⟩
      ·exact .inl (by show x.slot + 1 < i; omega)
     ·exact ⟨rfl, .inl c⟩
   ·subst c
    split
    ·rename_i c1
     rw [if_pos (ha c1).symm]
     exact ⟨q0, .inr ⟨rfl, ha⟩⟩
    ·rw [if_neg (by
      have e2 : ((s.N x.slot : Nat) : Int).tmod 2 = ((s.N x.slot % 2 : Nat) : Int) := rfl
      rw [e2]; omega)]
     exact ⟨rfl, .inr ⟨rfl, fun _ => rfl⟩⟩
  show ((fs s.X t _ t).isSome = true) ∧ _
  rw [fs_same, key.1, if_neg (by simp)]
  exact ⟨rfl, _, fs_same, key⟩
structure ES where
 N : Nat → Nat
 V : Nat → Nat
 E : Nat → Nat
 A : Nat → Nat
 X : Nat → Option (EW × Nat)
def ES.word (s : ES) (x : EW) : Nat := if x.st = 1 then s.V x.slot else s.N x.slot
abbrev engE (ns : Nat) : Eng where
 σ := ES
 ent s t := decide (s.E t ≠ 0)
 inn s t := decide (s.N t % 2 = 1)
 wt s t := (s.X t).isSome
 enter s t v := { s with E := fs s.E t 1, A := fs s.A t v }
 estep s t := if s.E t = 1 then { s with V := fs s.V t (s.A t), E := fs s.E t 2 } else { s with N := fs s.N t (s.N t + 1), E := fs s.E t 0 }
 exit s t := { s with N := fs s.N t (s.N t + 1) }
 wait s t st := { s with X := fs s.X t (some (⟨0, 0, 0⟩, st)) }
 wstep s t := match s.X t with
  | none => s
  | some x => { s with X := fs s.X t (if (x.1.step ns x.2 (s.word x.1)).st = 3 then none else some (x.1.step ns x.2 (s.word x.1), x.2)) }
theorem engE_wstep {ns : Nat} {s : ES} {t st : Nat} {x : EW} (h : s.X t = some (x, st)) : (engE ns).wstep s t = { s with X := fs s.X t (if (x.step ns st (s.word x)).st = 3 then none else some (x.step ns st (s.word x), st)) } := by
 show (match s.X t with | none => s | some x => _) = _
 rw [h]
theorem engE_wstep0 {ns : Nat} {s : ES} {t : Nat} (h : s.X t = none) : (engE ns).wstep s t = s := by
 show (match s.X t with | none => s | some x => _) = _
 rw [h]
theorem engE_fits (ns : Nat) : (engE ns).Fits := by
 refine ⟨fun s t v _ => ⟨fun u => ?_, fun u => rfl, fun u => rfl⟩, fun s t h1 h2 => ?_, fun s t h => ⟨fun u => rfl, fun u => ?_, fun u => rfl⟩, fun s t v => ⟨fun u => rfl, fun u => rfl, fun u => ?_⟩, fun s t => ?_⟩
 ·show decide (fs s.E t 1 u ≠ 0) = if u = t then true else decide (s.E u ≠ 0)
  by_cases c : u = t
  ·subst c; rw [if_pos rfl, fs_same]; rfl
  ·rw [if_neg c, fs_ne c]
 ·have h2' : decide (s.N t % 2 = 1) = false := h2
  simp only [decide_eq_false_iff_not] at h2'
  have e : (engE ns).estep s t = if s.E t = 1 then { s with V := fs s.V t (s.A t), E := fs s.E t 2 } else { s with N := fs s.N t (s.N t + 1), E := fs s.E t 0 } := rfl
  rw [e]
  by_cases c1 : s.E t = 1
  ·rw [if_pos c1]
   refine ⟨fun u c => ?_, fun u => ?_, fun u => rfl⟩
   ·show decide (fs s.E t 2 u ≠ 0) = decide (s.E u ≠ 0)
    rw [fs_ne c]
   ·show decide (s.N u % 2 = 1) = if u = t then !(decide (fs s.E t 2 t ≠ 0)) else decide (s.N u % 2 = 1)
    by_cases c : u = t
    ·subst c; rw [if_pos rfl, fs_same]; simp only [decide_eq_false h2']; rfl
    ·rw [if_neg c]
  ·rw [if_neg c1]
   refine ⟨fun u c => ?_, fun u => ?_, fun u => rfl⟩
   ·show decide (fs s.E t 0 u ≠ 0) = decide (s.E u ≠ 0)
    rw [fs_ne c]
   ·show decide (fs s.N t (s.N t + 1) u % 2 = 1) = if u = t then !(decide (fs s.E t 0 t ≠ 0)) else decide (s.N u % 2 = 1)
    by_cases c : u = t
    ·subst c
     rw [if_pos rfl, fs_same, fs_same, decide_eq_true (by omega)]; rfl
    ·rw [if_neg c, fs_ne c]
 ·have h' : decide (s.N t % 2 = 1) = true := h
  show decide (fs s.N t (s.N t + 1) u % 2 = 1) = if u = t then false else decide (s.N u % 2 = 1)
  by_cases c : u = t
  ·subst c
   rw [if_pos rfl, fs_same]
   simp only [decide_eq_true_eq] at h'
   simp only [decide_eq_false_iff_not]
   omega
  ·rw [if_neg c, fs_ne c]
 ·show (fs s.X t _ u).isSome = if u = t then true else (s.X u).isSome
  by_cases c : u = t
  ·subst c; rw [if_pos rfl, fs_same]; rfl
  ·rw [if_neg c, fs_ne c]
 ·cases hx : s.X t with
  | none => rw [engE_wstep0 hx]; exact ⟨fun u => rfl, fun u => rfl, fun u _ => rfl⟩
  | some x =>
   rw [engE_wstep hx]
   exact ⟨fun u => rfl, fun u => rfl, fun u c => by show (fs s.X t _ u).isSome = _; rw [fs_ne c]⟩
def hasE (s : ES) (i v : Nat) : Prop := s.A i = v ∧ (s.E i = 1 ∨ s.V i = v)
def guardE (s : ES) (u i : Nat) : Prop := ∃ x st, s.X u = some (x, st) ∧ st < 2 ^ 64 ∧ x.st < 3 ∧ s.V i < 64 ∧ st.testBit (s.V i) = true ∧ (x.slot < i ∨ x.slot = i ∧ (x.st ≠ 0 → x.seen = s.N i))
theorem inSet_nat {v st : Nat} (hv : v < 64) (h : st.testBit v = true) : inSet (v : Int) (st : Int) = true := by
 unfold inSet
 rw [decide_eq_true ⟨by omega, by omega⟩, Int.toNat_natCast, Int.toNat_natCast, h]; rfl
theorem graceE (ns : Nat) : (engE ns).Grace ns hasE guardE := by
 refine ⟨engE_fits ns, fun s t v => ⟨fs_same, .inl fs_same⟩, fun s t v i w h1 h2 => ?_, fun s t i w h => ?_, fun s t i w h1 h2 => h2, fun s t st i w h => h, fun s t i w h => ?_, fun s t v u i h1 h2 h3 h4 => h2, fun s t u i h1 h2 h3 h4 => ?_, fun s t u i h1 h2 h3 h4 => ?_, fun s t st u i h1 h2 h3 h4 => ?_, fun s t st i v h1 h2 h3 h4 h5 h6 h7 => ?_, fun s t u i h1 h2 h3 h4 h5 h6 => ?_, fun s t i v h1 h2 h3 h4 h5 h6 => ?_⟩
 ·exact ⟨(fs_ne h1).trans h2.1, h2.2.imp (fun q => (fs_ne h1).trans q) id⟩
 ·have e : (engE ns).estep s t = if s.E t = 1 then { s with V := fs s.V t (s.A t), E := fs s.E t 2 } else { s with N := fs s.N t (s.N t + 1), E := fs s.E t 0 } := rfl
  rw [e]
  by_cases c : i = t
  ·subst c
   split
   ·exact ⟨h.1, .inr (fs_same.trans h.1)⟩
   ·rename_i c1
    exact ⟨h.1, .inr (h.2.resolve_left c1)⟩
  ·split
   ·exact ⟨h.1, h.2.imp (fun q => (fs_ne c).trans q) fun q => (fs_ne c).trans q⟩
   ·exact ⟨h.1, h.2.imp (fun q => (fs_ne c).trans q) id⟩
 ·cases hx : s.X t with
  | none => rw [engE_wstep0 hx]; exact h
  | some y => rw [engE_wstep hx]; exact h
 ·obtain ⟨x, st, q1, q2, q3, q4, q5, q6⟩ := h2
  have e : (engE ns).estep s t = if s.E t = 1 then { s with V := fs s.V t (s.A t), E := fs s.E t 2 } else { s with N := fs s.N t (s.N t + 1), E := fs s.E t 0 } := rfl
  rw [e]
  split
  ·have e1 : fs s.V t (s.A t) i = s.V i := fs_ne h4
   exact ⟨x, st, q1, q2, q3, by show fs s.V t (s.A t) i < 64; rw [e1]; exact q4, by show st.testBit (fs s.V t (s.A t) i) = true; rw [e1]; exact q5, q6⟩
  ·exact ⟨x, st, q1, q2, q3, q4, q5, q6.imp id fun q => ⟨q.1, fun a => by rw [q.2 a]; show _ = ((fs s.N t _ i : Nat) : Int); rw [fs_ne h4]⟩⟩
 ·obtain ⟨x, st, q1, q2, q3, q4, q5, q6⟩ := h2
  exact ⟨x, st, q1, q2, q3, q4, q5, q6.imp id fun q => ⟨q.1, fun a => by rw [q.2 a]; show _ = ((fs s.N t _ i : Nat) : Int); rw [fs_ne h4]⟩⟩
 ·obtain ⟨x, st, q1, q⟩ := h2
  exact ⟨x, st, (fs_ne h4).trans q1, q⟩
 ·have h2' : decide (s.E i ≠ 0) = false := h2
  simp only [ne_eq, decide_not, Bool.not_eq_eq_eq_not, Bool.not_false, decide_eq_true_eq] at h2'
  have hV : s.V i = v := h4.2.resolve_left (by omega)
  refine ⟨_, st, fs_same, h6, by decide, by show s.V i < 64; omega, by show st.testBit (s.V i) = true; rw [hV]; exact h7, ?_⟩
  by_cases c : i = 0
  ·exact .inr ⟨c.symm, fun a => absurd rfl a⟩
  ·exact .inl (by show 0 < i; omega)
 ·obtain ⟨x, st, q1, q⟩ := h2
  cases hx : s.X t with
  | none => rw [engE_wstep0 hx]; exact ⟨x, st, q1, q⟩
  | some y => rw [engE_wstep hx]; exact ⟨x, st, (fs_ne h6).trans q1, q⟩
 ·obtain ⟨x, st, q1, q2, q3, q4, q5, q6⟩ := h2
  have h3' : decide (s.N i % 2 = 1) = true := h3
  simp only [decide_eq_true_eq] at h3'
  rw [engE_wstep q1]
  have nx : ∀ y : EW, y.slot < i → (y.next ns).st < 3 ∧ ((y.next ns).slot < i ∨ (y.next ns).slot = i ∧ ((y.next ns).st ≠ 0 → (y.next ns).seen = s.N i)) := fun y hy => by
   unfold EW.next
   rw [if_neg (by omega)]
   refine ⟨Nat.succ_pos _, ?_⟩
   by_cases c2 : y.slot + 1 = i
   ·exact .inr ⟨c2, fun a => absurd rfl a⟩
   ·exact .inl (by show y.slot + 1 < i; omega)
  have key : (x.step ns st (s.word x)).st < 3 ∧ ((x.step ns st (s.word x)).slot < i ∨ (x.step ns st (s.word x)).slot = i ∧ ((x.step ns st (s.word x)).st ≠ 0 → (x.step ns st (s.word x)).seen = s.N i)) := by
   unfold EW.step
   rcases q6 with c | ⟨c, ha⟩
   ·split
    ·split
     ·exact ⟨Nat.lt_of_sub_pos (Nat.succ_pos _), .inl c⟩
     ·exact nx _ c
    ·split
     ·split
      ·exact ⟨Nat.lt_of_sub_pos (Nat.succ_pos _), .inl c⟩
      ·exact nx _ c
     ·split
      ·exact ⟨q3, .inl c⟩
      ·exact nx _ c
   ·subst c
    split
    ·rename_i c1
     have ew : s.word x = s.N x.slot := if_neg (by omega)
     rw [if_pos (by
      rw [ew]
      have e2 : ((s.N x.slot : Nat) : Int).tmod 2 = ((s.N x.slot % 2 : Nat) : Int) := rfl
      rw [e2]; omega)]
     exact ⟨Nat.lt_of_sub_pos (Nat.succ_pos _), .inr ⟨rfl, fun _ => by show ((s.word x : Nat) : Int) = _; rw [ew]⟩⟩
    ·rename_i c1
     split
     ·rename_i c2
      have ew : s.word x = s.V x.slot := if_pos c2
      rw [ew, if_pos (inSet_nat q4 q5)]
      exact ⟨by show 2 < 3; decide, .inr ⟨rfl, fun _ => ha (by omega)⟩⟩
     ·rename_i c2
      have ew : s.word x = s.N x.slot := if_neg c2
      rw [ew, if_pos (ha c1).symm]
      exact ⟨q3, .inr ⟨rfl, ha⟩⟩
  show ((fs s.X t _ t).isSome = true) ∧ _
  rw [fs_same, if_neg (by omega)]
  exact ⟨rfl, _, st, fs_same, q2, key.1, q4, q5, key.2⟩
end Go.Proofs.YtbceiadaihphaaaGreat
set_option linter.unusedVariables false
set_option linter.unusedSimpArgs false
namespace Go.Proofs.YtbceiadaihphaaaGreat
open Go.Am
inductive GSec where
 | no
 | beg (b : Nat)
 | seen (b : Nat) (sd : Bool)
 | inn (b : Nat) (sd : Bool)
deriving DecidableEq
structure GW where
 left : List Nat
 ph : Nat
 side : Bool
structure GS where
 S : Nat → GSec
 G : Nat → Bool
 K : Nat → Option Nat
 X : Nat → Option GW
def GSec.ent : GSec → Bool
 | .beg _ => true
 | .seen _ _ => true
 | _ => false
def GSec.isIn : GSec → Bool
 | .inn _ _ => true
 | _ => false
def GS.cnt (s : GS) (ns b : Nat) (sd : Bool) : Nat := (List.range ns).countP fun t => decide (s.S t = .inn b sd)
theorem GS.cnt_pos {s : GS} {ns b i : Nat} {sd : Bool} (hi : i < ns) (h : s.S i = .inn b sd) : 0 < s.cnt ns b sd := List.countP_pos_iff.2 ⟨i, by simpa using hi, by simpa using h⟩
def GS.goE (s : GS) (t : Nat) : GS := match s.S t with
 | .beg b => { s with S := fs s.S t (.seen b (s.G b)) }
 | .seen b sd => { s with S := fs s.S t (.inn b sd) }
 | _ => s
def GS.goW (s : GS) (ns t : Nat) : GS := match s.X t with
 | some ⟨b :: r, ph, sd⟩ =>
  if ph = 0 then (if s.K b = none then { s with K := fs s.K b (some t), X := fs s.X t (some ⟨b :: r, 1, sd⟩) } else s)
  else if ph = 1 then { s with X := fs s.X t (some ⟨b :: r, 2, s.G b⟩) }
  else if ph = 2 then (if s.cnt ns b (!sd) = 0 then { s with X := fs s.X t (some ⟨b :: r, 3, sd⟩) } else s)
  else if ph = 3 then { s with G := fs s.G b (!sd), X := fs s.X t (some ⟨b :: r, 4, sd⟩) }
  else if ph = 4 then (if s.cnt ns b sd = 0 then { s with X := fs s.X t (some ⟨b :: r, 5, sd⟩) } else s)
  else { s with K := fs s.K b none, X := fs s.X t (if r = [] then none else some ⟨r, 0, sd⟩) }
 | _ => s
abbrev engG (ns nb : Nat) : Eng where
 σ := GS
 ent s t := (s.S t).ent
 inn s t := (s.S t).isIn
 wt s t := (s.X t).isSome
 enter s t v := { s with S := fs s.S t (.beg (v % nb)) }
 estep s t := s.goE t
 exit s t := { s with S := fs s.S t .no }
 wait s t st := { s with X := fs s.X t (some ⟨lefts nb (mbs 64 0 st), 0, false⟩) }
 wstep s t := s.goW ns t
theorem goW_other {s : GS} {ns t u : Nat} (h : u ≠ t) : (s.goW ns t).X u = s.X u := by
 unfold GS.goW
 split
 ·repeat' split
  all_goals first | rfl | exact fs_ne h
 ·rfl
theorem goW_S {s : GS} {ns t : Nat} : (s.goW ns t).S = s.S := by
 unfold GS.goW
 split
 ·repeat' split
  all_goals rfl
 ·rfl
theorem goE_X {s : GS} {t : Nat} : (s.goE t).X = s.X := by
 unfold GS.goE
 split <;> rfl
theorem goE_S {s : GS} {t u : Nat} (h : u ≠ t) : (s.goE t).S u = s.S u := by
 unfold GS.goE
 split
 ·exact fs_ne h
 ·exact fs_ne h
 ·rfl
theorem engG_fits (ns nb : Nat) : (engG ns nb).Fits := by
 refine ⟨fun s t v h0 => ⟨fun u => ?_, fun u => ?_, fun u => rfl⟩, fun s t h1 h2 => ⟨fun u c => ?_, fun u => ?_, fun u => ?_⟩, fun s t h => ⟨fun u => ?_, fun u => ?_, fun u => rfl⟩, fun s t v => ⟨fun u => rfl, fun u => rfl, fun u => ?_⟩, fun s t => ⟨fun u => ?_, fun u => ?_, fun u c => ?_⟩⟩
 ·show (fs s.S t (.beg (v % nb)) u).ent = if u = t then true else (s.S u).ent
  by_cases c : u = t
  ·subst c; rw [if_pos rfl, fs_same]; rfl
  ·rw [if_neg c, fs_ne c]
 ·show (fs s.S t (.beg (v % nb)) u).isIn = (s.S u).isIn
  by_cases c : u = t
  ·subst c; rw [fs_same]; exact h0.symm
  ·rw [fs_ne c]
 ·show ((s.goE t).S u).ent = (s.S u).ent
  rw [goE_S c]
 ·show ((s.goE t).S u).isIn = if u = t then !((s.goE t).S t).ent else (s.S u).isIn
  by_cases c : u = t
  ·subst c
   rw [if_pos rfl]
   have h1' : (s.S u).ent = true := h1
   unfold GS.goE
   cases q : s.S u with
   | no => rw [q] at h1'; simp [GSec.ent] at h1'
   | beg b => show ((fs s.S u (GSec.seen b (s.G b))) u).isIn = !((fs s.S u (GSec.seen b (s.G b))) u).ent; rw [fs_same]; rfl
   | seen b sd => show ((fs s.S u (GSec.inn b sd)) u).isIn = !((fs s.S u (GSec.inn b sd)) u).ent; rw [fs_same]; rfl
   | inn b sd => rw [q] at h1'; simp [GSec.ent] at h1'
  ·rw [if_neg c, goE_S c]
 ·show ((s.goE t).X u).isSome = (s.X u).isSome
  rw [goE_X]
 ·have h' : (s.S t).isIn = true := h
  show (fs s.S t .no u).ent = (s.S u).ent
  by_cases c : u = t
  ·subst c; rw [fs_same]
   cases q : s.S u with
   | inn b sd => rfl
   | no => rfl
   | _ => rw [q] at h'; simp [GSec.isIn] at h'
  ·rw [fs_ne c]
 ·show (fs s.S t .no u).isIn = if u = t then false else (s.S u).isIn
  by_cases c : u = t
  ·subst c; rw [if_pos rfl, fs_same]; rfl
  ·rw [if_neg c, fs_ne c]
 ·show (fs s.X t _ u).isSome = if u = t then true else (s.X u).isSome
  by_cases c : u = t
  ·subst c; rw [if_pos rfl, fs_same]; rfl
  ·rw [if_neg c, fs_ne c]
 ·show ((s.goW ns t).S u).ent = (s.S u).ent
  rw [goW_S]
 ·show ((s.goW ns t).S u).isIn = (s.S u).isIn
  rw [goW_S]
 ·show ((s.goW ns t).X u).isSome = (s.X u).isSome
  rw [goW_other c]
def hasG (nb : Nat) (s : GS) (i v : Nat) : Prop := match s.S i with
 | .no => True
 | .beg b => b = v % nb
 | .seen b _ => b = v % nb
 | .inn b _ => b = v % nb
def guardG (s : GS) (u i : Nat) : Prop := ∃ b0 r ph sd b d, s.X u = some ⟨b0 :: r, ph, sd⟩ ∧ s.S i = .inn b d ∧ (b ∈ r ∨ b = b0 ∧ (ph ≤ 2 ∨ (ph = 3 ∨ ph = 4) ∧ d = sd))
theorem guardG_of {s s' : GS} {u i : Nat} (h : guardG s u i) (hX : s'.X u = s.X u) (hS : s'.S i = s.S i) : guardG s' u i := by
 obtain ⟨b0, r, ph, sd, b, d, q1, q2, q3⟩ := h
 exact ⟨b0, r, ph, sd, b, d, hX.trans q1, hS.trans q2, q3⟩
theorem hasG_of {nb : Nat} {s s' : GS} {i v : Nat} (h : hasG nb s i v) (hS : s'.S i = s.S i) : hasG nb s' i v := by
 unfold hasG at *
 rw [hS]; exact h
theorem goW_look {s : GS} {ns t i : Nat} (hi : i < ns) (h : guardG s t i) : ((s.goW ns t).X t).isSome = true ∧ guardG (s.goW ns t) t i := by
 obtain ⟨b0, r, ph, sd, b, d, q1, q2, q3⟩ := h
 have hS : (s.goW ns t).S i = .inn b d := by rw [goW_S]; exact q2
 have key : ∃ r' b0' ph' sd', (s.goW ns t).X t = some ⟨b0' :: r', ph', sd'⟩ ∧ (b ∈ r' ∨ b = b0' ∧ (ph' ≤ 2 ∨ (ph' = 3 ∨ ph' = 4) ∧ d = sd')) := by
  have e : s.goW ns t = if ph = 0 then (if s.K b0 = none then { s with K := fs s.K b0 (some t), X := fs s.X t (some ⟨b0 :: r, 1, sd⟩) } else s)
   else if ph = 1 then { s with X := fs s.X t (some ⟨b0 :: r, 2, s.G b0⟩) }
   else if ph = 2 then (if s.cnt ns b0 (!sd) = 0 then { s with X := fs s.X t (some ⟨b0 :: r, 3, sd⟩) } else s)
   else if ph = 3 then { s with G := fs s.G b0 (!sd), X := fs s.X t (some ⟨b0 :: r, 4, sd⟩) }
   else if ph = 4 then (if s.cnt ns b0 sd = 0 then { s with X := fs s.X t (some ⟨b0 :: r, 5, sd⟩) } else s)
   else { s with K := fs s.K b0 none, X := fs s.X t (if r = [] then none else some ⟨r, 0, sd⟩) } := by
   unfold GS.goW; rw [q1]
  rw [e]
  by_cases c0 : ph = 0
  ·rw [if_pos c0]
   split
   ·exact ⟨r, b0, 1, sd, fs_same, q3.imp id fun q => ⟨q.1, .inl (by omega)⟩⟩
   ·exact ⟨r, b0, ph, sd, q1, q3⟩
  rw [if_neg c0]
  by_cases c1 : ph = 1
  ·rw [if_pos c1]; exact ⟨r, b0, 2, _, fs_same, q3.imp id fun q => ⟨q.1, .inl (by omega)⟩⟩
  rw [if_neg c1]
  by_cases c2 : ph = 2
  ·rw [if_pos c2]
   split
   ·rename_i hc
    refine ⟨r, b0, 3, sd, fs_same, q3.imp id fun q => ⟨q.1, .inr ⟨.inl rfl, ?_⟩⟩⟩
    have hq := q.1
    subst hq
    cases hd : decide (d = sd) with
    | true => simpa using hd
    | false =>
     have hn : d = !sd := by cases d <;> cases sd <;> simp_all
     have := GS.cnt_pos (s := s) hi (hn ▸ q2)
     omega
   ·exact ⟨r, b0, ph, sd, q1, q3⟩
  rw [if_neg c2]
  by_cases c3 : ph = 3
  ·rw [if_pos c3]
   refine ⟨r, b0, 4, sd, fs_same, q3.imp id fun q => ⟨q.1, .inr ⟨.inr rfl, ?_⟩⟩⟩
   rcases q.2 with q | q
   ·omega
   ·exact q.2
  rw [if_neg c3]
  by_cases c4 : ph = 4
  ·rw [if_pos c4]
   split
   ·rename_i hc
    refine ⟨r, b0, 5, sd, fs_same, ?_⟩
    rcases q3 with q | ⟨q, q'⟩
    ·exact .inl q
    ·rcases q' with q' | q'
     ·omega
     ·subst q
      have := GS.cnt_pos (s := s) hi (q'.2 ▸ q2)
      omega
   ·exact ⟨r, b0, ph, sd, q1, q3⟩
  rw [if_neg c4]
  have hr : b ∈ r := q3.resolve_right fun q => by rcases q.2 with q | q <;> omega
  cases r with
  | nil => simp at hr
  | cons b1 r =>
   refine ⟨r, b1, 0, sd, fs_same.trans (if_neg (by simp)), ?_⟩
   rcases List.mem_cons.1 hr with q | q
   ·exact .inr ⟨q, .inl (by omega)⟩
   ·exact .inl q
 obtain ⟨r', b0', ph', sd', k1, k2⟩ := key
 exact ⟨by rw [k1]; rfl, b0', r', ph', sd', b, d, k1, hS, k2⟩
theorem graceG {ns nb : Nat} (hnb : 0 < nb) : (engG ns nb).Grace ns (hasG nb) guardG := by
 refine ⟨engG_fits ns nb, fun s t v => ?_, fun s t v i w h1 h2 => hasG_of h2 (fs_ne h1), fun s t i w h => ?_, fun s t i w h1 h2 => hasG_of h2 (fs_ne h1), fun s t st i w h => hasG_of h rfl, fun s t i w h => hasG_of h (by rw [goW_S]), fun s t v u i h1 h2 h3 h4 => guardG_of h2 rfl (fs_ne h4), fun s t u i h1 h2 h3 h4 => guardG_of h2 (by rw [goE_X]) (goE_S h4), fun s t u i h1 h2 h3 h4 => guardG_of h2 rfl (fs_ne h4), fun s t st u i h1 h2 h3 h4 => guardG_of h2 (fs_ne h4) rfl, fun s t st i v h1 h2 h3 h4 h5 h6 h7 => ?_, fun s t u i h1 h2 h3 h4 h5 h6 => guardG_of h2 (goW_other h6) (by rw [goW_S]), fun s t i v h1 h2 h3 h4 h5 h6 => goW_look h4 h2⟩
 ·show hasG nb _ t v
  unfold hasG
  show (match fs s.S t (GSec.beg (v % nb)) t with | .no => True | .beg b => b = v % nb | .seen b _ => b = v % nb | .inn b _ => b = v % nb)
  rw [fs_same]
 ·have e : (s.goE t).S i = s.S i ∨ (∃ b sd, s.S i = .beg b ∧ (s.goE t).S i = .seen b sd) ∨ ∃ b sd, s.S i = .seen b sd ∧ (s.goE t).S i = .inn b sd := by
   by_cases c : i = t
   ·subst c
    unfold GS.goE
    cases q : s.S i with
    | no => exact .inl q
    | beg b => exact .inr (.inl ⟨b, _, rfl, fs_same⟩)
    | seen b sd => exact .inr (.inr ⟨b, sd, rfl, fs_same⟩)
    | inn b sd => exact .inl q
   ·exact .inl (goE_S c)
  rcases e with q | ⟨b, sd, q1, q2⟩ | ⟨b, sd, q1, q2⟩
  ·exact hasG_of h q
  ·unfold hasG at *; rw [q1] at h
   show (match (s.goE t).S i with | .no => True | .beg b => b = w % nb | .seen b _ => b = w % nb | .inn b _ => b = w % nb)
   rw [q2]; exact h
  ·unfold hasG at *; rw [q1] at h
   show (match (s.goE t).S i with | .no => True | .beg b => b = w % nb | .seen b _ => b = w % nb | .inn b _ => b = w % nb)
   rw [q2]; exact h
 ·have h1' : (s.S i).isIn = true := h1
  cases q : s.S i with
  | inn b d =>
   unfold hasG at h4; rw [q] at h4
   have hm : b ∈ lefts nb (mbs 64 0 st) := by
    unfold lefts
    rw [List.mem_filter]
    refine ⟨by rw [h4]; simpa using Nat.mod_lt _ hnb, ?_⟩
    simp only [wants, List.any_eq_true, decide_eq_true_eq]
    exact ⟨v, (mem_mbs 64 0 st v h6).2 ⟨Nat.zero_le _, by rw [Nat.sub_zero]; exact h7⟩, h4.symm⟩
   have hX : ((engG ns nb).wait s t st).X t = some ⟨lefts nb (mbs 64 0 st), 0, false⟩ := fs_same
   cases hl : lefts nb (mbs 64 0 st) with
   | nil => rw [hl] at hm; simp at hm
   | cons b0 r =>
    rw [hl] at hm hX
    refine ⟨b0, r, 0, false, b, d, hX, q, ?_⟩
    rcases List.mem_cons.1 hm with c | c
    ·exact .inr ⟨c, .inl (by omega)⟩
    ·exact .inl c
  | _ => rw [q] at h1'; simp [GSec.isIn] at h1'
end Go.Proofs.YtbceiadaihphaaaGreat
set_option linter.unusedVariables false
set_option linter.unusedSimpArgs false
namespace Go.Proofs.YtbceiadaihphaaaGreat
open Go.Am
structure Eng.Fresh (e : Eng) (ns : Nat) (hasv : e.σ → Nat → Nat → Prop) (guard : e.σ → Nat → Nat → Prop) (fresh : e.σ → Nat → Nat → Prop) : Prop where
 beg : ∀ s t st, fresh (e.wait s t st) t st
 enter : ∀ s t v u st, fresh s u st → fresh (e.enter s t v) u st
 estep : ∀ s t u st, fresh s u st → fresh (e.estep s t) u st
 exit : ∀ s t u st, fresh s u st → fresh (e.exit s t) u st
 wait : ∀ s t w u st, u ≠ t → fresh s u st → fresh (e.wait s t w) u st
 wstep : ∀ s t u st, u ≠ t → fresh s u st → fresh (e.wstep s t) u st
 guard : ∀ s u st i v, fresh s u st → e.inn s i = true → e.ent s i = false → i < ns → hasv s i v → v < 64 → st < 2 ^ 64 → st.testBit v = true → guard s u i
def freshF (s : FS) (u : Nat) (_ : Nat) : Prop := s.X u = some ⟨0, false, 0, false⟩
def freshE (s : ES) (u st : Nat) : Prop := s.X u = some (⟨0, 0, 0⟩, st)
def freshG (nb : Nat) (s : GS) (u st : Nat) : Prop := s.X u = some ⟨lefts nb (mbs 64 0 st), 0, false⟩
theorem freF (ns : Nat) : (engF ns).Fresh ns (fun _ _ _ => True) guardF freshF := by
 refine ⟨fun s t st => fs_same, fun s t v u st h => h, fun s t u st h => h, fun s t u st h => h, fun s t w u st c h => (fs_ne c).trans h, fun s t u st c h => ?_, fun s u st i v h h1 h2 h3 h4 h5 h6 h7 => ?_⟩
 ·cases hx : s.X t with
  | none => rw [engF_wstep0 hx]; exact h
  | some x => rw [engF_wstep hx]; exact (fs_ne c).trans h
 ·have e : (engF ns).wait s u st = s := by
   show ({ s with X := fs s.X u (some ⟨0, false, 0, false⟩) } : FS) = s
   rw [fs_id h]
  have := (graceF ns).gBegin s u st i v h1 h2 h3 h4 h5 h6 h7
  rwa [e] at this
theorem freE (ns : Nat) : (engE ns).Fresh ns hasE guardE freshE := by
 refine ⟨fun s t st => fs_same, fun s t v u st h => h, fun s t u st h => ?_, fun s t u st h => h, fun s t w u st c h => (fs_ne c).trans h, fun s t u st c h => ?_, fun s u st i v h h1 h2 h3 h4 h5 h6 h7 => ?_⟩
 ·have e : (engE ns).estep s t = if s.E t = 1 then { s with V := fs s.V t (s.A t), E := fs s.E t 2 } else { s with N := fs s.N t (s.N t + 1), E := fs s.E t 0 } := rfl
  rw [e]; split <;> exact h
 ·cases hx : s.X t with
  | none => rw [engE_wstep0 hx]; exact h
  | some x => rw [engE_wstep hx]; exact (fs_ne c).trans h
 ·have e : (engE ns).wait s u st = s := by
   show ({ s with X := fs s.X u (some (⟨0, 0, 0⟩, st)) } : ES) = s
   rw [fs_id h]
  have := (graceE ns).gBegin s u st i v h1 h2 h3 h4 h5 h6 h7
  rwa [e] at this
theorem freG {ns nb : Nat} (hnb : 0 < nb) : (engG ns nb).Fresh ns (hasG nb) guardG (freshG nb) := by
 refine ⟨fun s t st => fs_same, fun s t v u st h => h, fun s t u st h => ?_, fun s t u st h => h, fun s t w u st c h => (fs_ne c).trans h, fun s t u st c h => ?_, fun s u st i v h h1 h2 h3 h4 h5 h6 h7 => ?_⟩
 ·show (s.goE t).X u = _
  rw [goE_X]; exact h
 ·show (s.goW ns t).X u = _
  rw [goW_other c]; exact h
 ·have e : (engG ns nb).wait s u st = s := by
   show ({ s with X := fs s.X u (some ⟨lefts nb (mbs 64 0 st), 0, false⟩) } : GS) = s
   rw [fs_id h]
  have := (graceG (ns := ns) hnb).gBegin s u st i v h1 h2 h3 h4 h5 h6 h7
  rwa [e] at this
end Go.Proofs.YtbceiadaihphaaaGreat
