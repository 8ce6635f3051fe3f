/-
  A part of the proof: contracts of inner functions.
-/
import Derived.Test.YtbceiadaihphaaaGreatRV5
set_option linter.unusedVariables false
set_option linter.unusedSimpArgs false
namespace Go.Proofs.YtbceiadaihphaaaGreat
open Go.Am
def nums (p : Nat → Bool) (n : Nat) : List Int := ((List.range n).filter p).map fun v : Nat => (v : Int)
end Go.Proofs.YtbceiadaihphaaaGreat
set_option linter.unusedVariables false
set_option linter.unusedSimpArgs false
namespace Go.Proofs.YtbceiadaihphaaaGreat
open Go.Am
structure Fr (d : Rl → Nat) (C : Rl → Option ABlk) (d' : Rl → Nat) (C' : Rl → Option ABlk) (t : Nat) : Prop where
 cli : ∀ a b, 30 ≤ a → d' (a, b) = d (a, b) ∧ C' (a, b) = C (a, b)
 ptr : ∀ u, u ≠ t → d' (8, u) = d (8, u) ∧ d' (10, u) = d (10, u)
 prcu : d' (4, 0) = d (4, 0)
 mem : d' rM = d rM
structure Face (e : Eng) (ns : Nat) (rep : e.σ → Nat → (Rl → Nat) → (Rl → Option ABlk) → Prop) : Prop where
 enterB : ∀ {h : PT ABlk} {n : Nat} {d : Rl → Nat} {C : Rl → Option ABlk} {s : e.σ} {k t v : Nat}, St h n d C → rep s k d C → k ≤ 90000 → t < ns → v < 64 → e.ent s t = false → e.inn s t = false → e.wt s t = false →
  EvB Tryz.prog OP 69 [pt (d (4, 0)), I6 t, I6 t, I6 v] h n fun r h' n' => ∃ d' C', r = tup [pt (d' (8, t)), I6 0] ∧ St h' n' d' C' ∧ rep (e.enter s t v) k d' C' ∧ Fr d C d' C' t
 estepB : ∀ {h : PT ABlk} {n : Nat} {d : Rl → Nat} {C : Rl → Option ABlk} {s : e.σ} {k t : Nat}, St h n d C → rep s k d C → k ≤ 90000 → t < ns → e.ent s t = true → e.inn s t = false →
  EvB Tryz.prog OP 57 [pt (d (8, t))] h n fun r h' n' => ∃ d' C' pc, r = tup [U8 pc, .bool !e.ent (e.estep s t) t] ∧ St h' n' d' C' ∧ rep (e.estep s t) (k + 1) d' C' ∧ Fr d C d' C' t ∧ d' (8, t) = d (8, t)
 exitB : ∀ {h : PT ABlk} {n : Nat} {d : Rl → Nat} {C : Rl → Option ABlk} {s : e.σ} {k t : Nat}, St h n d C → rep s k d C → k ≤ 90000 → t < ns → e.inn s t = true → e.ent s t = false →
  EvB Tryz.prog OP 60 [pt (d (4, 0)), I6 t, I6 t] h n fun r h' n' => ∃ d' C' pc, r = tup [U8 pc, I6 0] ∧ pc ≠ 0 ∧ St h' n' d' C' ∧ rep (e.exit s t) (k + 1) d' C' ∧ Fr d C d' C' t
 waitB : ∀ {h : PT ABlk} {n : Nat} {d : Rl → Nat} {C : Rl → Option ABlk} {s : e.σ} {k t st : Nat}, St h n d C → rep s k d C → k ≤ 90000 → t < ns → st ≠ 0 → st < 2 ^ 64 → e.wt s t = false →
  EvB Tryz.prog OP 71 [pt (d (4, 0)), I6 t, U6 st] h n fun r h' n' => ∃ d' C', r = tup [pt (d' (10, t)), I6 0] ∧ St h' n' d' C' ∧ rep (e.wait s t st) k d' C' ∧ Fr d C d' C' t
 wstepB : ∀ {h : PT ABlk} {n : Nat} {d : Rl → Nat} {C : Rl → Option ABlk} {s : e.σ} {k t : Nat}, St h n d C → rep s k d C → k ≤ 90000 → t < ns → e.wt s t = true →
  EvB Tryz.prog OP 59 [pt (d (10, t))] h n fun r h' n' => ∃ d' C' pc, r = tup [U8 pc, .bool !e.wt (e.wstep s t) t] ∧ St h' n' d' C' ∧ rep (e.wstep s t) (k + 1) d' C' ∧ Fr d C d' C' t ∧ d' (10, t) = d (10, t)
 cliC : ∀ {d : Rl → Nat} {C : Rl → Option ABlk} {s : e.σ} {k a b : Nat} {B : Option ABlk}, rep s k d C → 30 ≤ a → rep s k d (upd C (a, b) B)
 cliD : ∀ {d : Rl → Nat} {C : Rl → Option ABlk} {s : e.σ} {k a b i : Nat}, rep s k d C → 30 ≤ a → rep s k (upd d (a, b) i) C
def nl (m : Nat) (f : Nat → Nat) : List Int := (List.range m).map fun i => (f i : Int)
theorem nl_length {m : Nat} {f : Nat → Nat} : (nl m f).length = m := by simp [nl]
theorem nl_get {m : Nat} {f : Nat → Nat} {i : Nat} (hi : i < m) : (nl m f)[i]? = some (f i : Int) := by
 unfold nl; rw [List.getElem?_map, List.getElem?_range hi]; rfl
theorem nl_getE {m : Nat} {f : Nat → Nat} {i : Nat} (hi : i < (nl m f).length) : (nl m f)[i] = (f i : Int) := by
 have h := nl_get (f := f) (show i < m by rw [nl_length] at hi; exact hi)
 rw [List.getElem?_eq_getElem hi] at h; exact Option.some.inj h
theorem nl_set {m : Nat} {f g : Nat → Nat} {i : Nat} {x : Int} (hx : x = (g i : Int)) (hg : ∀ j, j < m → j ≠ i → g j = f j) : (nl m f).set i x = nl m g := by
 apply List.ext_getElem?
 intro j
 rw [List.getElem?_set]
 by_cases c : i = j
 ·subst c
  rw [if_pos rfl]
  by_cases c2 : i < m
  ·rw [if_pos (by rw [nl_length]; exact c2), nl_get c2, hx]
  ·rw [if_neg (by rw [nl_length]; exact c2)]
   rw [List.getElem?_eq_none (by rw [nl_length]; omega)]
 ·rw [if_neg c]
  by_cases c2 : j < m
  ·rw [nl_get c2, nl_get c2, hg j c2 (fun q => c q.symm)]
  ·rw [List.getElem?_eq_none (by rw [nl_length]; omega), List.getElem?_eq_none (by rw [nl_length]; omega)]
def bl (m : Nat) (f : Nat → Bool) : List Bool := (List.range m).map f
theorem bl_length {m : Nat} {f : Nat → Bool} : (bl m f).length = m := by simp [bl]
theorem bl_get {m : Nat} {f : Nat → Bool} {i : Nat} (hi : i < m) : (bl m f)[i]? = some (f i) := by
 unfold bl; rw [List.getElem?_map, List.getElem?_range hi]; rfl
theorem bl_set {m : Nat} {f : Nat → Bool} {i : Nat} {x : Bool} : (bl m f).set i x = bl m (fs f i x) := by
 apply List.ext_getElem?
 intro j
 rw [List.getElem?_set]
 by_cases c : i = j
 ·subst c
  rw [if_pos rfl]
  by_cases c2 : i < m
  ·rw [if_pos (by rw [bl_length]; exact c2), bl_get c2, fs_same]
  ·rw [if_neg (by rw [bl_length]; exact c2)]
   rw [List.getElem?_eq_none (by rw [bl_length]; omega)]
 ·rw [if_neg c]
  by_cases c2 : j < m
  ·rw [bl_get c2, bl_get c2, fs_ne (fun q => c q.symm)]
  ·rw [List.getElem?_eq_none (by rw [bl_length]; omega), List.getElem?_eq_none (by rw [bl_length]; omega)]
end Go.Proofs.YtbceiadaihphaaaGreat
set_option linter.unusedVariables false
set_option linter.unusedSimpArgs false
namespace Go.Proofs.YtbceiadaihphaaaGreat
open Go.Am
structure RepF (ns : Nat) (s : FS) (k : Nat) (d : Rl → Nat) (C : Rl → Option ABlk) : Prop where
 mem : ∃ L, IsM d C (nl ns s.N) L k
 eng : EngF d C 0 ns (nl ns s.N) (bl ns s.E)
 num : ∀ i, i < ns → s.N i ≤ k
 ev : ∀ t, t < ns → s.E t = true → s.N t % 2 = 0
 en : ∀ t, t < ns → s.E t = true → C (8, t) = row [.iface 258 (pt (d (9, t)))] ∧ C (9, t) = row [pt (d (5, 0)), I6 t, I6 t, .func (.func 139) ⟨[pt (d (9, t))]⟩ ⟨[]⟩]
 wa : ∀ t x, t < ns → s.X t = some x → x.slot < ns ∧ x.ended = false ∧ C (10, t) = row [.iface 261 (pt (d (11, t)))] ∧ C (11, t) = row (fwRow x (d (5, 0)) (d (11, t)) t)
theorem tmod_nat {x : Nat} : ((x : Nat) : Int).tmod 2 = ((x % 2 : Nat) : Int) := rfl
theorem repF_enter {ns : Nat} (hns : 0 < ns ∧ ns ≤ 64) {h : PT ABlk} {n : Nat} {d : Rl → Nat} {C : Rl → Option ABlk} {s : FS} {k t v : Nat} (S : St h n d C) (R : RepF ns s k d C) (ht : t < ns) (hv : v < 64) (he : s.E t = false) (hi : decide (s.N t % 2 = 1) = false) :
  EvB Tryz.prog OP 69 [pt (d (4, 0)), I6 t, I6 t, I6 v] h n fun r h' n' => ∃ d' C', r = tup [pt (d' (8, t)), I6 0] ∧ St h' n' d' C' ∧ RepF ns ((engF ns).enter s t v) k d' C' ∧ Fr d C d' C' t := by
 obtain ⟨⟨L, M⟩, E, num, ev, en, wa⟩ := R
 simp only [decide_eq_false_iff_not] at hi
 obtain ⟨kk, r, h', n', e, p, q, q1, q2, q3, rfl, S'⟩ := fEnterB (t := t) (s := t) (base := 0) (th := t) (v := v) S E ⟨by omega, by omega⟩ (by omega) ht ⟨by omega, by omega⟩ (by rw [bl_get ht, he]) ⟨_, nl_get ht, by rw [tmod_nat]; omega⟩
 refine ⟨kk, _, h', n', e, _, _, by simp (disch := first | decide | assumption | omega) only [rM, rW, rL, upd_same, upd_tag, upd_num, memC_ne], S', ⟨⟨L, ((((M.updC (by omega)).updC (by omega)).updC (by omega)).updD (by omega)).updD (by omega)⟩, ?_, num, fun u hu hE => ?_, fun u hu hE => ?_, fun u x hu hX => ?_⟩, ?_⟩
 ·obtain ⟨e1, e2, e3, e4, e5, e6⟩ := E
  exact ⟨by simp (disch := first | decide | assumption | omega) only [rM, rW, rL, upd_same, upd_tag, upd_num, memC_ne]; exact e1, by simp (disch := first | decide | assumption | omega) only [rM, rW, rL, upd_same, upd_tag, upd_num, memC_ne]; exact e2, by simp (disch := first | decide | assumption | omega) only [rM, rW, rL, upd_same, upd_tag, upd_num, memC_ne]; exact e3, by simp (disch := first | decide | assumption | omega) only [rM, rW, rL, upd_same, upd_tag, upd_num, memC_ne]; rw [bl_set], e5, bl_length⟩
 ·have hE' : fs s.E t true u = true := hE
  show s.N u % 2 = 0
  by_cases c : u = t
  ·subst c; omega
  ·rw [fs_ne c] at hE'; exact ev u hu hE'
 ·have hE' : fs s.E t true u = true := hE
  by_cases c : u = t
  ·subst c
   exact ⟨by simp (disch := first | decide | assumption | omega) only [rM, rW, rL, upd_same, upd_tag, upd_num, memC_ne], by simp (disch := first | decide | assumption | omega) only [rM, rW, rL, upd_same, upd_tag, upd_num, memC_ne]⟩
  ·rw [fs_ne c] at hE'
   obtain ⟨a1, a2⟩ := en u hu hE'
   exact ⟨by simp (disch := first | decide | assumption | omega) only [rM, rW, rL, upd_same, upd_tag, upd_num, memC_ne]; exact a1, by simp (disch := first | decide | assumption | omega) only [rM, rW, rL, upd_same, upd_tag, upd_num, memC_ne]; exact a2⟩
 ·obtain ⟨a1, a2, a3, a4⟩ := wa u x hu hX
  exact ⟨a1, a2, by simp (disch := first | decide | assumption | omega) only [rM, rW, rL, upd_same, upd_tag, upd_num, memC_ne]; exact a3, by simp (disch := first | decide | assumption | omega) only [rM, rW, rL, upd_same, upd_tag, upd_num, memC_ne]; exact a4⟩
 ·refine ⟨fun a b c => ?_, fun u c => ⟨by simp (disch := first | decide | assumption | omega) only [rM, rW, rL, upd_same, upd_tag, upd_num, memC_ne], by simp (disch := first | decide | assumption | omega) only [rM, rW, rL, upd_same, upd_tag, upd_num, memC_ne]⟩, by simp (disch := first | decide | assumption | omega) only [rM, rW, rL, upd_same, upd_tag, upd_num, memC_ne], by simp (disch := first | decide | assumption | omega) only [rM, rW, rL, upd_same, upd_tag, upd_num, memC_ne]⟩
  exact ⟨by simp (disch := first | decide | assumption | omega) only [rM, rW, rL, upd_same, upd_tag, upd_num, memC_ne], by simp (disch := first | decide | assumption | omega) only [rM, rW, rL, upd_same, upd_tag, upd_num, memC_ne]⟩
theorem repF_estep {ns : Nat} (hns : 0 < ns ∧ ns ≤ 64) {h : PT ABlk} {n : Nat} {d : Rl → Nat} {C : Rl → Option ABlk} {s : FS} {k t : Nat} (S : St h n d C) (R : RepF ns s k d C) (hk : k ≤ 90000) (ht : t < ns) (he : s.E t = true) :
  EvB Tryz.prog OP 57 [pt (d (8, t))] h n fun r h' n' => ∃ d' C' pc, r = tup [U8 pc, .bool !(engF ns).ent ((engF ns).estep s t) t] ∧ St h' n' d' C' ∧ RepF ns ((engF ns).estep s t) (k + 1) d' C' ∧ Fr d C d' C' t ∧ d' (8, t) = d (8, t) := by
 obtain ⟨⟨L, M⟩, E, num, ev, en, wa⟩ := R
 obtain ⟨a1, a2⟩ := en t ht he
 have hnt := num t ht
 have hnl : ∀ f, (nl ns f).length = ns := fun f => nl_length
 obtain ⟨kk, r, h', n', e, g, q1, q2, rfl, S'⟩ := fEStepB (t := t) (s := t) (ba := t) (base := 0) (th := t) S E M (by omega) ⟨by omega, by omega⟩ (by omega) ht (nl_get ht) ⟨by omega, by omega⟩ (by omega) (by rw [hnl]; exact ht) (by rw [hnl]; omega) a1 a2
 have hset : (nl ns s.N).set t ((s.N t : Int) + 1) = nl ns (fs s.N t (s.N t + 1)) := nl_set (by rw [fs_same]; omega) fun j _ c => fs_ne c
 rw [hset] at S'
 have hM : ∀ C g L', L'.length = (k + 1) * 6 → IsM (upd d rL g) (memC C (d rW) g (nl ns (fs s.N t (s.N t + 1))) L' (k + 1)) (nl ns (fs s.N t (s.N t + 1))) L' (k + 1) := fun C g L' hL => IsM.next (k := k) (C := C) (L := L) (W := nl ns s.N) (by rw [hnl, hnl]) hL
 refine ⟨kk, _, h', n', e, _, _, 13, ?_, S', ⟨⟨_, ((hM _ _ _ (by rw [List.length_append, M.len]; show _ + 6 = _; omega)).updC (by omega)).updC (by omega)⟩, ?_, fun i hi => ?_, fun u hu hE => ?_, fun u hu hE => ?_, fun u x hu hX => ?_⟩, ?_, by simp (disch := first | decide | assumption | omega) only [rM, rW, rL, upd_same, upd_tag, upd_num, memC_ne]⟩
 ·show _ = tup [_, .bool !(fs s.E t false t)]
  rw [fs_same]; rfl
 ·obtain ⟨e1, e2, e3, e4, e5, e6⟩ := E
  exact ⟨by simp (disch := first | decide | assumption | omega) only [rM, rW, rL, upd_same, upd_tag, upd_num, memC_ne]; exact e1, by simp (disch := first | decide | assumption | omega) only [rM, rW, rL, upd_same, upd_tag, upd_num, memC_ne]; exact e2, by simp (disch := first | decide | assumption | omega) only [rM, rW, rL, upd_same, upd_tag, upd_num, memC_ne], by simp (disch := first | decide | assumption | omega) only [rM, rW, rL, upd_same, upd_tag, upd_num, memC_ne]; rw [bl_set], nl_length, bl_length⟩
 ·show fs s.N t (s.N t + 1) i ≤ k + 1
  have := num i hi
  unfold fs; split <;> omega
 ·have hE' : fs s.E t false u = true := hE
  by_cases c : u = t
  ·subst c; rw [fs_same] at hE'; simp at hE'
  ·rw [fs_ne c] at hE'; show fs s.N t (s.N t + 1) u % 2 = 0; rw [fs_ne c]; exact ev u hu hE'
 ·have hE' : fs s.E t false u = true := hE
  by_cases c : u = t
  ·subst c; rw [fs_same] at hE'; simp at hE'
  ·rw [fs_ne c] at hE'
   obtain ⟨a1, a2⟩ := en u hu hE'
   exact ⟨by simp (disch := first | decide | assumption | omega) only [rM, rW, rL, upd_same, upd_tag, upd_num, memC_ne]; exact a1, by simp (disch := first | decide | assumption | omega) only [rM, rW, rL, upd_same, upd_tag, upd_num, memC_ne]; exact a2⟩
 ·obtain ⟨a1, a2, a3, a4⟩ := wa u x hu hX
  exact ⟨a1, a2, by simp (disch := first | decide | assumption | omega) only [rM, rW, rL, upd_same, upd_tag, upd_num, memC_ne]; exact a3, by simp (disch := first | decide | assumption | omega) only [rM, rW, rL, upd_same, upd_tag, upd_num, memC_ne]; exact a4⟩
 ·refine ⟨fun a b c => ?_, fun u c => ⟨by simp (disch := first | decide | assumption | omega) only [rM, rW, rL, upd_same, upd_tag, upd_num, memC_ne], by simp (disch := first | decide | assumption | omega) only [rM, rW, rL, upd_same, upd_tag, upd_num, memC_ne]⟩, by simp (disch := first | decide | assumption | omega) only [rM, rW, rL, upd_same, upd_tag, upd_num, memC_ne], by simp (disch := first | decide | assumption | omega) only [rM, rW, rL, upd_same, upd_tag, upd_num, memC_ne]⟩
  exact ⟨by simp (disch := first | decide | assumption | omega) only [rM, rW, rL, upd_same, upd_tag, upd_num, memC_ne], by simp (disch := first | decide | assumption | omega) only [rM, rW, rL, upd_same, upd_tag, upd_num, memC_ne]⟩
theorem repF_exit {ns : Nat} (hns : 0 < ns ∧ ns ≤ 64) {h : PT ABlk} {n : Nat} {d : Rl → Nat} {C : Rl → Option ABlk} {s : FS} {k t : Nat} (S : St h n d C) (R : RepF ns s k d C) (hk : k ≤ 90000) (ht : t < ns) (hi : decide (s.N t % 2 = 1) = true) (he : s.E t = false) :
  EvB Tryz.prog OP 60 [pt (d (4, 0)), I6 t, I6 t] h n fun r h' n' => ∃ d' C' pc, r = tup [U8 pc, I6 0] ∧ pc ≠ 0 ∧ St h' n' d' C' ∧ RepF ns ((engF ns).exit s t) (k + 1) d' C' ∧ Fr d C d' C' t := by
 obtain ⟨⟨L, M⟩, E, num, ev, en, wa⟩ := R
 simp only [decide_eq_true_eq] at hi
 have hnt := num t ht
 have hnl : ∀ f, (nl ns f).length = ns := fun f => nl_length
 obtain ⟨kk, r, h', n', e, g, q1, q2, rfl, S'⟩ := fExitB (s := t) (ba := t) (base := 0) (th := t) S E M (by omega) ⟨by omega, by omega⟩ (by omega) ht (nl_get ht) ⟨by omega, by omega⟩ (by rw [tmod_nat, hi]; rfl) (by omega) (by rw [hnl]; exact ht) (by rw [hnl]; omega)
 have hset : (nl ns s.N).set t ((s.N t : Int) + 1) = nl ns (fs s.N t (s.N t + 1)) := nl_set (by rw [fs_same]; omega) fun j _ c => fs_ne c
 rw [hset] at S'
 have hM : ∀ C g L', L'.length = (k + 1) * 6 → IsM (upd d rL g) (memC C (d rW) g (nl ns (fs s.N t (s.N t + 1))) L' (k + 1)) (nl ns (fs s.N t (s.N t + 1))) L' (k + 1) := fun C g L' hL => IsM.next (k := k) (C := C) (L := L) (W := nl ns s.N) (by rw [hnl, hnl]) hL
 refine ⟨kk, _, h', n', e, _, _, _, rfl, by decide, S', ⟨⟨_, hM _ _ _ (by rw [List.length_append, M.len]; show _ + 6 = _; omega)⟩, ?_, fun i hi => ?_, fun u hu hE => ?_, fun u hu hE => ?_, fun u x hu hX => ?_⟩, ?_⟩
 ·obtain ⟨e1, e2, e3, e4, e5, e6⟩ := E
  exact ⟨by simp (disch := first | decide | assumption | omega) only [rM, rW, rL, upd_same, upd_tag, upd_num, memC_ne]; exact e1, by simp (disch := first | decide | assumption | omega) only [rM, rW, rL, upd_same, upd_tag, upd_num, memC_ne]; exact e2, by simp (disch := first | decide | assumption | omega) only [rM, rW, rL, upd_same, upd_tag, upd_num, memC_ne], by simp (disch := first | decide | assumption | omega) only [rM, rW, rL, upd_same, upd_tag, upd_num, memC_ne]; exact e4, nl_length, e6⟩
 ·show fs s.N t (s.N t + 1) i ≤ k + 1
  have := num i hi
  unfold fs; split <;> omega
 ·have hE' : s.E u = true := hE
  have c : u ≠ t := fun q => by subst q; rw [he] at hE'; simp at hE'
  show fs s.N t (s.N t + 1) u % 2 = 0; rw [fs_ne c]; exact ev u hu hE'
 ·obtain ⟨a1, a2⟩ := en u hu hE
  exact ⟨by simp (disch := first | decide | assumption | omega) only [rM, rW, rL, upd_same, upd_tag, upd_num, memC_ne]; exact a1, by simp (disch := first | decide | assumption | omega) only [rM, rW, rL, upd_same, upd_tag, upd_num, memC_ne]; exact a2⟩
 ·obtain ⟨a1, a2, a3, a4⟩ := wa u x hu hX
  exact ⟨a1, a2, by simp (disch := first | decide | assumption | omega) only [rM, rW, rL, upd_same, upd_tag, upd_num, memC_ne]; exact a3, by simp (disch := first | decide | assumption | omega) only [rM, rW, rL, upd_same, upd_tag, upd_num, memC_ne]; exact a4⟩
 ·refine ⟨fun a b c => ?_, fun u c => ⟨by simp (disch := first | decide | assumption | omega) only [rM, rW, rL, upd_same, upd_tag, upd_num, memC_ne], by simp (disch := first | decide | assumption | omega) only [rM, rW, rL, upd_same, upd_tag, upd_num, memC_ne]⟩, by simp (disch := first | decide | assumption | omega) only [rM, rW, rL, upd_same, upd_tag, upd_num, memC_ne], by simp (disch := first | decide | assumption | omega) only [rM, rW, rL, upd_same, upd_tag, upd_num, memC_ne]⟩
  exact ⟨by simp (disch := first | decide | assumption | omega) only [rM, rW, rL, upd_same, upd_tag, upd_num, memC_ne], by simp (disch := first | decide | assumption | omega) only [rM, rW, rL, upd_same, upd_tag, upd_num, memC_ne]⟩
theorem repF_wait {ns : Nat} (hns : 0 < ns ∧ ns ≤ 64) {h : PT ABlk} {n : Nat} {d : Rl → Nat} {C : Rl → Option ABlk} {s : FS} {k t st : Nat} (S : St h n d C) (R : RepF ns s k d C) (ht : t < ns) (h0 : st ≠ 0) :
  EvB Tryz.prog OP 71 [pt (d (4, 0)), I6 t, U6 st] h n fun r h' n' => ∃ d' C', r = tup [pt (d' (10, t)), I6 0] ∧ St h' n' d' C' ∧ RepF ns ((engF ns).wait s t st) k d' C' ∧ Fr d C d' C' t := by
 obtain ⟨⟨L, M⟩, E, num, ev, en, wa⟩ := R
 obtain ⟨kk, r, h', n', e, p, q, q1, q2, q3, rfl, S'⟩ := fWaitB (t := t) (base := 0) (th := t) (set := st) S E ⟨by omega, by omega⟩ (by omega)
 refine ⟨kk, _, h', n', e, _, _, by simp (disch := first | decide | assumption | omega) only [rM, rW, rL, upd_same, upd_tag, upd_num, memC_ne], S', ⟨⟨L, (((M.updC (by omega)).updC (by omega)).updD (by omega)).updD (by omega)⟩, ?_, num, ev, fun u hu hE => ?_, fun u x hu hX => ?_⟩, ?_⟩
 ·obtain ⟨e1, e2, e3, e4, e5, e6⟩ := E
  exact ⟨by simp (disch := first | decide | assumption | omega) only [rM, rW, rL, upd_same, upd_tag, upd_num, memC_ne]; exact e1, by simp (disch := first | decide | assumption | omega) only [rM, rW, rL, upd_same, upd_tag, upd_num, memC_ne]; exact e2, by simp (disch := first | decide | assumption | omega) only [rM, rW, rL, upd_same, upd_tag, upd_num, memC_ne]; exact e3, by simp (disch := first | decide | assumption | omega) only [rM, rW, rL, upd_same, upd_tag, upd_num, memC_ne]; exact e4, e5, e6⟩
 ·obtain ⟨a1, a2⟩ := en u hu hE
  exact ⟨by simp (disch := first | decide | assumption | omega) only [rM, rW, rL, upd_same, upd_tag, upd_num, memC_ne]; exact a1, by simp (disch := first | decide | assumption | omega) only [rM, rW, rL, upd_same, upd_tag, upd_num, memC_ne]; exact a2⟩
 ·have hX' : fs s.X t (some ⟨0, false, 0, false⟩) u = some x := hX
  by_cases c : u = t
  ·subst c
   rw [fs_same] at hX'
   obtain rfl := Option.some.inj hX'
   exact ⟨hns.1, rfl, by simp (disch := first | decide | assumption | omega) only [rM, rW, rL, upd_same, upd_tag, upd_num, memC_ne], by simp (disch := first | decide | assumption | omega) only [rM, rW, rL, upd_same, upd_tag, upd_num, memC_ne]; rfl⟩
  ·rw [fs_ne c] at hX'
   obtain ⟨a1, a2, a3, a4⟩ := wa u x hu hX'
   exact ⟨a1, a2, by simp (disch := first | decide | assumption | omega) only [rM, rW, rL, upd_same, upd_tag, upd_num, memC_ne]; exact a3, by simp (disch := first | decide | assumption | omega) only [rM, rW, rL, upd_same, upd_tag, upd_num, memC_ne]; exact a4⟩
 ·refine ⟨fun a b c => ?_, fun u c => ⟨by simp (disch := first | decide | assumption | omega) only [rM, rW, rL, upd_same, upd_tag, upd_num, memC_ne], by simp (disch := first | decide | assumption | omega) only [rM, rW, rL, upd_same, upd_tag, upd_num, memC_ne]⟩, by simp (disch := first | decide | assumption | omega) only [rM, rW, rL, upd_same, upd_tag, upd_num, memC_ne], by simp (disch := first | decide | assumption | omega) only [rM, rW, rL, upd_same, upd_tag, upd_num, memC_ne]⟩
  exact ⟨by simp (disch := first | decide | assumption | omega) only [rM, rW, rL, upd_same, upd_tag, upd_num, memC_ne], by simp (disch := first | decide | assumption | omega) only [rM, rW, rL, upd_same, upd_tag, upd_num, memC_ne]⟩
theorem fw_slot {ns : Nat} {x : FW} {w : Int} (h : x.slot < ns) (he : (x.step ns w).ended = false) : (x.step ns w).slot < ns := by
 unfold FW.step FW.next at *
 split at he
 ·split at he
  ·rename_i c1 c2; rw [if_pos c1, if_pos c2]; exact h
  ·rename_i c1 c2
   rw [if_pos c1, if_neg c2]
   simp only [decide_eq_false_iff_not] at he
   show x.slot + 1 < ns; omega
 ·split at he
  ·rename_i c1 c2
   rw [if_neg c1, if_pos c2]
   simp only [decide_eq_false_iff_not] at he
   show x.slot + 1 < ns; omega
  ·rename_i c1 c2; rw [if_neg c1, if_neg c2]; exact h
theorem repF_wstep {ns : Nat} (hns : 0 < ns ∧ ns ≤ 64) {h : PT ABlk} {n : Nat} {d : Rl → Nat} {C : Rl → Option ABlk} {s : FS} {k t : Nat} (S : St h n d C) (R : RepF ns s k d C) (hk : k ≤ 90000) (ht : t < ns) (hw : (s.X t).isSome = true) :
  EvB Tryz.prog OP 59 [pt (d (10, t))] h n fun r h' n' => ∃ d' C' pc, r = tup [U8 pc, .bool !(engF ns).wt ((engF ns).wstep s t) t] ∧ St h' n' d' C' ∧ RepF ns ((engF ns).wstep s t) (k + 1) d' C' ∧ Fr d C d' C' t ∧ d' (10, t) = d (10, t) := by
 obtain ⟨⟨L, M⟩, E, num, ev, en, wa⟩ := R
 obtain ⟨x, hX⟩ := Option.isSome_iff_exists.1 hw
 obtain ⟨a1, a2, a3, a4⟩ := wa t x ht hX
 have hnt := num x.slot a1
 have hnl : ∀ f, (nl ns f).length = ns := fun f => nl_length
 obtain ⟨kk, r, h', n', e, g, q1, q2, rfl, S'⟩ := fWStepB (t := t) (ba := x.slot) (base := 0) (th := t) S E M (by omega) ⟨by omega, by omega⟩ (by omega) a1 (by omega) (by rw [hnl]; exact a1) (by rw [hnl]; omega) (nl_getE _) ⟨by omega, by omega⟩ a2 a3 a4
 rw [engF_wstep hX]
 have hM : ∀ C g L', L'.length = (k + 1) * 6 → IsM (upd d rL g) (memC C (d rW) g (nl ns s.N) L' (k + 1)) (nl ns s.N) L' (k + 1) := fun C g L' hL => IsM.next (k := k) (C := C) (L := L) (W := nl ns s.N) rfl hL
 refine ⟨kk, _, h', n', e, _, _, 17, ?_, S', ⟨⟨_, (hM _ _ _ (by rw [List.length_append, M.len]; show _ + 6 = _; omega)).updC (by omega)⟩, ?_, fun i hi => Nat.le_succ_of_le (num i hi), ev, fun u hu hE => ?_, fun u y hu hY => ?_⟩, ?_, by simp (disch := first | decide | assumption | omega) only [rM, rW, rL, upd_same, upd_tag, upd_num, memC_ne]⟩
 ·show _ = tup [_, .bool !((fs s.X t _ t).isSome)]
  rw [fs_same]
  cases (x.step ns (s.N x.slot)).ended <;> rfl
 ·obtain ⟨e1, e2, e3, e4, e5, e6⟩ := E
  exact ⟨by simp (disch := first | decide | assumption | omega) only [rM, rW, rL, upd_same, upd_tag, upd_num, memC_ne]; exact e1, by simp (disch := first | decide | assumption | omega) only [rM, rW, rL, upd_same, upd_tag, upd_num, memC_ne]; exact e2, by simp (disch := first | decide | assumption | omega) only [rM, rW, rL, upd_same, upd_tag, upd_num, memC_ne]; exact e3, by simp (disch := first | decide | assumption | omega) only [rM, rW, rL, upd_same, upd_tag, upd_num, memC_ne]; exact e4, e5, e6⟩
 ·obtain ⟨a1, a2⟩ := en u hu hE
  exact ⟨by simp (disch := first | decide | assumption | omega) only [rM, rW, rL, upd_same, upd_tag, upd_num, memC_ne]; exact a1, by simp (disch := first | decide | assumption | omega) only [rM, rW, rL, upd_same, upd_tag, upd_num, memC_ne]; exact a2⟩
 ·have hY' : fs s.X t _ u = some y := hY
  by_cases c : u = t
  ·subst c
   rw [fs_same] at hY'
   cases he : (x.step ns (s.N x.slot)).ended with
   | true => rw [he, if_pos rfl] at hY'; simp at hY'
   | false =>
    rw [he, if_neg (by simp)] at hY'
    obtain rfl := Option.some.inj hY'
    exact ⟨fw_slot a1 he, he, by simp (disch := first | decide | assumption | omega) only [rM, rW, rL, upd_same, upd_tag, upd_num, memC_ne]; exact a3, by simp (disch := first | decide | assumption | omega) only [rM, rW, rL, upd_same, upd_tag, upd_num, memC_ne]⟩
  ·rw [fs_ne c] at hY'
   obtain ⟨a1, a2, a3, a4⟩ := wa u y hu hY'
   exact ⟨a1, a2, by simp (disch := first | decide | assumption | omega) only [rM, rW, rL, upd_same, upd_tag, upd_num, memC_ne]; exact a3, by simp (disch := first | decide | assumption | omega) only [rM, rW, rL, upd_same, upd_tag, upd_num, memC_ne]; exact a4⟩
 ·refine ⟨fun a b c => ?_, fun u c => ⟨by simp (disch := first | decide | assumption | omega) only [rM, rW, rL, upd_same, upd_tag, upd_num, memC_ne], by simp (disch := first | decide | assumption | omega) only [rM, rW, rL, upd_same, upd_tag, upd_num, memC_ne]⟩, by simp (disch := first | decide | assumption | omega) only [rM, rW, rL, upd_same, upd_tag, upd_num, memC_ne], by simp (disch := first | decide | assumption | omega) only [rM, rW, rL, upd_same, upd_tag, upd_num, memC_ne]⟩
  exact ⟨by simp (disch := first | decide | assumption | omega) only [rM, rW, rL, upd_same, upd_tag, upd_num, memC_ne], by simp (disch := first | decide | assumption | omega) only [rM, rW, rL, upd_same, upd_tag, upd_num, memC_ne]⟩
theorem repF_cliC {ns : Nat} {d : Rl → Nat} {C : Rl → Option ABlk} {s : FS} {k a b : Nat} {B : Option ABlk} (R : RepF ns s k d C) (ha : 30 ≤ a) : RepF ns s k d (upd C (a, b) B) := by
 obtain ⟨⟨L, M⟩, ⟨e1, e2, e3, e4, e5, e6⟩, num, ev, en, wa⟩ := R
 refine ⟨⟨L, M.updC (by omega)⟩, ⟨by simp (disch := first | decide | assumption | omega) only [rM, rW, rL, upd_same, upd_tag, upd_num, memC_ne]; exact e1, by simp (disch := first | decide | assumption | omega) only [rM, rW, rL, upd_same, upd_tag, upd_num, memC_ne]; exact e2, by simp (disch := first | decide | assumption | omega) only [rM, rW, rL, upd_same, upd_tag, upd_num, memC_ne]; exact e3, by simp (disch := first | decide | assumption | omega) only [rM, rW, rL, upd_same, upd_tag, upd_num, memC_ne]; exact e4, e5, e6⟩, num, ev, fun u hu hE => ?_, fun u x hu hX => ?_⟩
 ·obtain ⟨a1, a2⟩ := en u hu hE
  exact ⟨by simp (disch := first | decide | assumption | omega) only [rM, rW, rL, upd_same, upd_tag, upd_num, memC_ne]; exact a1, by simp (disch := first | decide | assumption | omega) only [rM, rW, rL, upd_same, upd_tag, upd_num, memC_ne]; exact a2⟩
 ·obtain ⟨a1, a2, a3, a4⟩ := wa u x hu hX
  exact ⟨a1, a2, by simp (disch := first | decide | assumption | omega) only [rM, rW, rL, upd_same, upd_tag, upd_num, memC_ne]; exact a3, by simp (disch := first | decide | assumption | omega) only [rM, rW, rL, upd_same, upd_tag, upd_num, memC_ne]; exact a4⟩
theorem repF_cliD {ns : Nat} {d : Rl → Nat} {C : Rl → Option ABlk} {s : FS} {k a b i : Nat} (R : RepF ns s k d C) (ha : 30 ≤ a) : RepF ns s k (upd d (a, b) i) C := by
 obtain ⟨⟨L, M⟩, ⟨e1, e2, e3, e4, e5, e6⟩, num, ev, en, wa⟩ := R
 refine ⟨⟨L, M.updD (by omega)⟩, ⟨by simp (disch := first | decide | assumption | omega) only [rM, rW, rL, upd_same, upd_tag, upd_num, memC_ne]; exact e1, by simp (disch := first | decide | assumption | omega) only [rM, rW, rL, upd_same, upd_tag, upd_num, memC_ne]; exact e2, e3, e4, e5, e6⟩, num, ev, fun u hu hE => ?_, fun u x hu hX => ?_⟩
 ·obtain ⟨a1, a2⟩ := en u hu hE
  exact ⟨by simp (disch := first | decide | assumption | omega) only [rM, rW, rL, upd_same, upd_tag, upd_num, memC_ne]; exact a1, by simp (disch := first | decide | assumption | omega) only [rM, rW, rL, upd_same, upd_tag, upd_num, memC_ne]; exact a2⟩
 ·obtain ⟨a1, a2, a3, a4⟩ := wa u x hu hX
  exact ⟨a1, a2, by simp (disch := first | decide | assumption | omega) only [rM, rW, rL, upd_same, upd_tag, upd_num, memC_ne]; exact a3, by simp (disch := first | decide | assumption | omega) only [rM, rW, rL, upd_same, upd_tag, upd_num, memC_ne]; exact a4⟩
theorem faceF {ns : Nat} (hns : 0 < ns ∧ ns ≤ 64) : Face (engF ns) ns (RepF ns) := ⟨fun S R hk ht hv he hi hw => repF_enter hns S R ht hv he hi, fun S R hk ht he hi => repF_estep hns S R hk ht he, fun S R hk ht hi he => repF_exit hns S R hk ht hi he, fun S R hk ht h0 h1 hw => repF_wait hns S R ht h0, fun S R hk ht hw => repF_wstep hns S R hk ht hw, repF_cliC, repF_cliD
 ⟩
end Go.Proofs.YtbceiadaihphaaaGreat
