/-
  A part of the proof: contracts of inner functions.
-/
import Derived.Test.YtbceiadaihphaaaGreatRX2
set_option linter.unusedVariables false
set_option linter.unusedSimpArgs false
namespace Go.Proofs.YtbceiadaihphaaaGreat
open Go.Am
def wE (N V : Nat → Nat) (i : Nat) : Nat := if i % 2 = 0 then N (i / 2) else V (i / 2)
theorem wE_N {N V : Nat → Nat} {t : Nat} : wE N V (2 * t) = N t := by unfold wE; rw [if_pos (by omega), show 2 * t / 2 = t by omega]
theorem wE_V {N V : Nat → Nat} {t : Nat} : wE N V (2 * t + 1) = V t := by unfold wE; rw [if_neg (by omega), show (2 * t + 1) / 2 = t by omega]
theorem wE_setN {N V : Nat → Nat} {t x j : Nat} (h : j ≠ 2 * t) : wE (fs N t x) V j = wE N V j := by
 unfold wE
 split
 ·rw [fs_ne (by omega)]
 ·rfl
theorem wE_setV {N V : Nat → Nat} {t x j : Nat} (h : j ≠ 2 * t + 1) : wE N (fs V t x) j = wE N V j := by
 unfold wE
 split
 ·rfl
 ·rw [fs_ne (by omega)]
def pl (ns : Nat) (f : Nat → Nat) (g : Nat → Bool) : List (Int × Bool) := (List.range ns).map fun i => ((f i : Int), g i)
theorem pl_length {ns : Nat} {f : Nat → Nat} {g : Nat → Bool} : (pl ns f g).length = ns := by simp [pl]
theorem pl_get {ns : Nat} {f : Nat → Nat} {g : Nat → Bool} {i : Nat} (hi : i < ns) : (pl ns f g)[i]? = some ((f i : Int), g i) := by
 unfold pl; rw [List.getElem?_map, List.getElem?_range hi]; rfl
theorem pl_set {ns : Nat} {f f' : Nat → Nat} {g g' : Nat → Bool} {i : Nat} {x : Int} {b : Bool} (hx : x = (f' i : Int)) (hb : b = g' i) (h : ∀ j, j ≠ i → f' j = f j ∧ g' j = g j) : (pl ns f g).set i (x, b) = pl ns f' g' := by
 apply List.ext_getElem?
 intro j
 rw [List.getElem?_set]
 by_cases c : i = j
 ·subst c
  rw [if_pos rfl]
  by_cases c2 : i < ns
  ·rw [if_pos (by rw [pl_length]; exact c2), pl_get c2, hx, hb]
  ·rw [if_neg (by rw [pl_length]; exact c2)]
   rw [List.getElem?_eq_none (by rw [pl_length]; omega)]
 ·rw [if_neg c]
  by_cases c2 : j < ns
  ·rw [pl_get c2, pl_get c2, (h j (fun q => c q.symm)).1, (h j (fun q => c q.symm)).2]
  ·rw [List.getElem?_eq_none (by rw [pl_length]; omega), List.getElem?_eq_none (by rw [pl_length]; omega)]
def bE (E : Nat → Nat) (i : Nat) : Bool := decide (E i ≠ 0)
structure RepE (ns : Nat) (s : ES) (k : Nat) (d : Rl → Nat) (C : Rl → Option ABlk) : Prop where
 mem : ∃ L, IsM d C (nl (2 * ns) (wE s.N s.V)) L k
 eng : EngE d C 0 ns (pl ns s.N (bE s.E))
 num : ∀ i, i < ns → s.N i ≤ k
 vs : ∀ i, i < ns → s.V i < 64
 ev : ∀ t, t < ns → s.E t ≠ 0 → s.N t % 2 = 0 ∧ s.A t < 64 ∧ s.E t ≤ 2
 en : ∀ t, t < ns → s.E t ≠ 0 → C (8, t) = row [.iface 274 (pt (d (9, t)))] ∧ C (9, t) = row [pt (d (5, 0)), I6 t, I6 t, I6 (s.A t), I6 ((s.E t : Int) - 1)]
 wa : ∀ t x st, t < ns → s.X t = some (x, st) → x.slot < ns ∧ x.st < 3 ∧ st < 2 ^ 64 ∧ C (10, t) = row [.iface 282 (pt (d (11, t)))] ∧ C (11, t) = row (ewRow x (d (5, 0)) t st)
theorem repE_enter {ns : Nat} (hns : 0 < ns ∧ ns ≤ 64) {h : PT ABlk} {n : Nat} {d : Rl → Nat} {C : Rl → Option ABlk} {s : ES} {k t v : Nat} (S : St h n d C) (R : RepE ns s k d C) (ht : t < ns) (hv : v < 64) (he : s.E t = 0) (hi : decide (s.N t % 2 = 1) = false) :
  EvB Tryz.prog OP 69 [pt (d (4, 0)), I6 t, I6 t, I6 v] h n fun r h' n' => ∃ d' C', r = tup [pt (d' (8, t)), I6 0] ∧ St h' n' d' C' ∧ RepE ns ((engE ns).enter s t v) k d' C' ∧ Fr d C d' C' t := by
 obtain ⟨⟨L, M⟩, E, num, vs, ev, en, wa⟩ := R
 simp only [decide_eq_false_iff_not] at hi
 have hb0 : bE s.E t = false := by unfold bE; rw [he]; rfl
 obtain ⟨kk, r, h', n', e, p, q, q1, q2, q3, rfl, S'⟩ := eEnterB (t := t) (s := t) (base := 0) (th := t) (v := v) S E ⟨by omega, by omega⟩ (by omega) ht ⟨by omega, by omega⟩ (by rw [pl_get ht, hb0]) (by rw [tmod_nat]; omega)
 rw [pl_set (f' := s.N) (g' := bE (fs s.E t 1)) rfl (by unfold bE; rw [fs_same]; rfl) (fun j c => ⟨rfl, by unfold bE; rw [fs_ne c]⟩)] at S'
 refine ⟨kk, _, h', n', e, _, _, by simp (disch := first | decide | assumption | omega) only [rM, rW, rL, upd_same, upd_tag, upd_num, memC_ne], S', ⟨⟨L, ((((M.updC (by omega)).updC (by omega)).updC (by omega)).updD (by omega)).updD (by omega)⟩, ?_, num, vs, fun u hu hE => ?_, fun u hu hE => ?_, fun u x st hu hX => ?_⟩, ?_⟩
 ·obtain ⟨e1, e2, e3, e4, e5⟩ := E
  exact ⟨by simp (disch := first | decide | assumption | omega) only [rM, rW, rL, upd_same, upd_tag, upd_num, memC_ne]; exact e1, by simp (disch := first | decide | assumption | omega) only [rM, rW, rL, upd_same, upd_tag, upd_num, memC_ne]; exact e2, by simp (disch := first | decide | assumption | omega) only [rM, rW, rL, upd_same, upd_tag, upd_num, memC_ne], by simp (disch := first | decide | assumption | omega) only [rM, rW, rL, upd_same, upd_tag, upd_num, memC_ne]; exact e4, pl_length⟩
 ·have hE' : fs s.E t 1 u ≠ 0 := hE
  show s.N u % 2 = 0 ∧ fs s.A t v u < 64 ∧ fs s.E t 1 u ≤ 2
  by_cases c : u = t
  ·subst c; rw [fs_same, fs_same]; exact ⟨by omega, hv, by omega⟩
  ·rw [fs_ne c] at hE' ⊢; rw [fs_ne c]; exact ev u hu hE'
 ·have hE' : fs s.E t 1 u ≠ 0 := hE
  show _ ∧ _ = row [_, _, _, I6 (fs s.A t v u : Nat), I6 ((fs s.E t 1 u : Nat) - 1 : Int)]
  by_cases c : u = t
  ·subst c
   rw [fs_same, fs_same]
   exact ⟨by simp (disch := first | decide | assumption | omega) only [rM, rW, rL, upd_same, upd_tag, upd_num, memC_ne], by simp (disch := first | decide | assumption | omega) only [rM, rW, rL, upd_same, upd_tag, upd_num, memC_ne]; rfl⟩
  ·rw [fs_ne c] at hE' ⊢; rw [fs_ne c]
   obtain ⟨a1, a2⟩ := en u hu hE'
   exact ⟨by simp (disch := first | decide | assumption | omega) only [rM, rW, rL, upd_same, upd_tag, upd_num, memC_ne]; exact a1, by simp (disch := first | decide | assumption | omega) only [rM, rW, rL, upd_same, upd_tag, upd_num, memC_ne]; exact a2⟩
 ·obtain ⟨a1, a2, a3, a4, a5⟩ := wa u x st hu hX
  exact ⟨a1, a2, a3, by simp (disch := first | decide | assumption | omega) only [rM, rW, rL, upd_same, upd_tag, upd_num, memC_ne]; exact a4, by simp (disch := first | decide | assumption | omega) only [rM, rW, rL, upd_same, upd_tag, upd_num, memC_ne]; exact a5⟩
 ·refine ⟨fun a b c => ?_, fun u c => ⟨by simp (disch := first | decide | assumption | omega) only [rM, rW, rL, upd_same, upd_tag, upd_num, memC_ne], by simp (disch := first | decide | assumption | omega) only [rM, rW, rL, upd_same, upd_tag, upd_num, memC_ne]⟩, by simp (disch := first | decide | assumption | omega) only [rM, rW, rL, upd_same, upd_tag, upd_num, memC_ne], by simp (disch := first | decide | assumption | omega) only [rM, rW, rL, upd_same, upd_tag, upd_num, memC_ne]⟩
  exact ⟨by simp (disch := first | decide | assumption | omega) only [rM, rW, rL, upd_same, upd_tag, upd_num, memC_ne], by simp (disch := first | decide | assumption | omega) only [rM, rW, rL, upd_same, upd_tag, upd_num, memC_ne]⟩
theorem repE_estep {ns : Nat} (hns : 0 < ns ∧ ns ≤ 64) {h : PT ABlk} {n : Nat} {d : Rl → Nat} {C : Rl → Option ABlk} {s : ES} {k t : Nat} (S : St h n d C) (R : RepE ns s k d C) (hk : k ≤ 90000) (ht : t < ns) (he : s.E t ≠ 0) :
  EvB Tryz.prog OP 57 [pt (d (8, t))] h n fun r h' n' => ∃ d' C' pc, r = tup [U8 pc, .bool !(engE ns).ent ((engE ns).estep s t) t] ∧ St h' n' d' C' ∧ RepE ns ((engE ns).estep s t) (k + 1) d' C' ∧ Fr d C d' C' t ∧ d' (8, t) = d (8, t) := by
 obtain ⟨⟨L, M⟩, E, num, vs, ev, en, wa⟩ := R
 obtain ⟨a1, a2⟩ := en t ht he
 obtain ⟨b1, b2, b3⟩ := ev t ht he
 have hnt := num t ht
 have hnl : ∀ f, (nl (2 * ns) f).length = 2 * ns := fun f => nl_length
 have eq : (engE ns).estep s t = if s.E t = 1 then { s with V := fs s.V t (s.A t), E := fs s.E t 2 } else { s with N := fs s.N t (s.N t + 1), E := fs s.E t 0 } := rfl
 rw [eq]
 by_cases c1 : s.E t = 1
 ·rw [if_pos c1]
  rw [c1] at a2
  obtain ⟨kk, r, h', n', e, g, q1, q2, rfl, S'⟩ := eMarkB (t := t) (s := t) (ba := 2 * t + 1) (base := 0) (th := t) (v := s.A t) S E M (by omega) ⟨by omega, by omega⟩ (by omega) ht ⟨by omega, by omega⟩ (by omega) (by omega) (by rw [hnl]; omega) (by rw [hnl]; omega) a1 a2
  have hset : (nl (2 * ns) (wE s.N s.V)).set (2 * t + 1) (s.A t : Int) = nl (2 * ns) (wE s.N (fs s.V t (s.A t))) := nl_set (by rw [wE_V, fs_same]) fun j _ c => wE_setV c
  rw [hset] at S'
  have hM : ∀ C g L', L'.length = (k + 1) * 6 → IsM (upd d rL g) (memC C (d rW) g (nl (2 * ns) (wE s.N (fs s.V t (s.A t)))) L' (k + 1)) (nl (2 * ns) (wE s.N (fs s.V t (s.A t)))) L' (k + 1) := fun C g L' hL => IsM.next (k := k) (C := C) (L := L) (W := nl (2 * ns) (wE s.N s.V)) (by rw [hnl, hnl]) hL
  refine ⟨kk, _, h', n', e, _, _, 14, ?_, S', ⟨⟨_, (hM _ _ _ (by rw [List.length_append, M.len]; show _ + 6 = _; omega)).updC (by omega)⟩, ?_, fun i hi => Nat.le_succ_of_le (num i hi), fun i hi => ?_, fun u hu hE => ?_, fun u hu hE => ?_, fun u x st hu hX => ?_⟩, ?_, by simp (disch := first | decide | assumption | omega) only [rM, rW, rL, upd_same, upd_tag, upd_num, memC_ne]⟩
  ·show _ = tup [_, .bool !(decide (fs s.E t 2 t ≠ 0))]
   rw [fs_same]; rfl
  ·obtain ⟨e1, e2, e3, e4, e5⟩ := E
   have hpl : bE (fs s.E t 2) = bE s.E := by
    funext i
    unfold bE
    by_cases c : i = t
    ·subst c; rw [fs_same, c1]; rfl
    ·rw [fs_ne c]
   refine ⟨by simp (disch := first | decide | assumption | omega) only [rM, rW, rL, upd_same, upd_tag, upd_num, memC_ne]; exact e1, by simp (disch := first | decide | assumption | omega) only [rM, rW, rL, upd_same, upd_tag, upd_num, memC_ne]; exact e2, ?_, by simp (disch := first | decide | assumption | omega) only [rM, rW, rL, upd_same, upd_tag, upd_num, memC_ne]; exact e4, pl_length⟩
   simp (disch := first | decide | assumption | omega) only [rM, rW, rL, upd_same, upd_tag, upd_num, memC_ne]
   show _ = row (slL (pl ns s.N (bE (fs s.E t 2))))
   rw [hpl]; exact e3
  ·show fs s.V t (s.A t) i < 64
   unfold fs; split
   ·exact b2
   ·exact vs i hi
  ·have hE' : fs s.E t 2 u ≠ 0 := hE
   show s.N u % 2 = 0 ∧ s.A u < 64 ∧ fs s.E t 2 u ≤ 2
   by_cases c : u = t
   ·subst c; rw [fs_same]; exact ⟨b1, b2, Nat.le_refl _⟩
   ·rw [fs_ne c] at hE' ⊢; exact ev u hu hE'
  ·have hE' : fs s.E t 2 u ≠ 0 := hE
   show _ ∧ _ = row [_, _, _, _, I6 ((fs s.E t 2 u : Nat) - 1 : Int)]
   by_cases c : u = t
   ·subst c
    rw [fs_same]
    exact ⟨by simp (disch := first | decide | assumption | omega) only [rM, rW, rL, upd_same, upd_tag, upd_num, memC_ne]; exact a1, by simp (disch := first | decide | assumption | omega) only [rM, rW, rL, upd_same, upd_tag, upd_num, memC_ne]; rfl⟩
   ·rw [fs_ne c] at hE' ⊢
    obtain ⟨a1, a2⟩ := en u hu hE'
    exact ⟨by simp (disch := first | decide | assumption | omega) only [rM, rW, rL, upd_same, upd_tag, upd_num, memC_ne]; exact a1, by simp (disch := first | decide | assumption | omega) only [rM, rW, rL, upd_same, upd_tag, upd_num, memC_ne]; exact a2⟩
  ·obtain ⟨a1, a2, a3, a4, a5⟩ := wa u x st hu hX
   exact ⟨a1, a2, a3, by simp (disch := first | decide | assumption | omega) only [rM, rW, rL, upd_same, upd_tag, upd_num, memC_ne]; exact a4, by simp (disch := first | decide | assumption | omega) only [rM, rW, rL, upd_same, upd_tag, upd_num, memC_ne]; exact a5⟩
  ·refine ⟨fun a b c => ?_, fun u c => ⟨by simp (disch := first | decide | assumption | omega) only [rM, rW, rL, upd_same, upd_tag, upd_num, memC_ne], by simp (disch := first | decide | assumption | omega) only [rM, rW, rL, upd_same, upd_tag, upd_num, memC_ne]⟩, by simp (disch := first | decide | assumption | omega) only [rM, rW, rL, upd_same, upd_tag, upd_num, memC_ne], by simp (disch := first | decide | assumption | omega) only [rM, rW, rL, upd_same, upd_tag, upd_num, memC_ne]⟩
   exact ⟨by simp (disch := first | decide | assumption | omega) only [rM, rW, rL, upd_same, upd_tag, upd_num, memC_ne], by simp (disch := first | decide | assumption | omega) only [rM, rW, rL, upd_same, upd_tag, upd_num, memC_ne]⟩
 ·rw [if_neg c1]
  have c2 : s.E t = 2 := by omega
  rw [c2] at a2
  obtain ⟨kk, r, h', n', e, g, q1, q2, rfl, S'⟩ := eSeqB (t := t) (s := t) (ba := 2 * t) (base := 0) (th := t) (v := s.A t) S E M (by omega) ⟨by omega, by omega⟩ (by omega) ht (pl_get ht) ⟨by omega, by omega⟩ (by omega) (by omega) (by rw [hnl]; omega) (by rw [hnl]; omega) a1 a2
  have hset : (nl (2 * ns) (wE s.N s.V)).set (2 * t) ((s.N t : Int) + 1) = nl (2 * ns) (wE (fs s.N t (s.N t + 1)) s.V) := nl_set (by rw [wE_N, fs_same]; omega) fun j _ c => wE_setN c
  rw [hset] at S'
  rw [pl_set (x := (s.N t : Int) + 1) (b := false) (f' := fs s.N t (s.N t + 1)) (g' := bE (fs s.E t 0)) (by rw [fs_same]; omega) (by unfold bE; rw [fs_same]; rfl) (fun j c => ⟨fs_ne c, by unfold bE; rw [fs_ne c]⟩)] at S'
  have hM : ∀ C g L', L'.length = (k + 1) * 6 → IsM (upd d rL g) (memC C (d rW) g (nl (2 * ns) (wE (fs s.N t (s.N t + 1)) s.V)) L' (k + 1)) (nl (2 * ns) (wE (fs s.N t (s.N t + 1)) s.V)) L' (k + 1) := fun C g L' hL => IsM.next (k := k) (C := C) (L := L) (W := nl (2 * ns) (wE s.N s.V)) (by rw [hnl, hnl]) hL
  refine ⟨kk, _, h', n', e, _, _, 13, ?_, S', ⟨⟨_, ((hM _ _ _ (by rw [List.length_append, M.len]; show _ + 6 = _; omega)).updC (by omega)).updC (by omega)⟩, ?_, fun i hi => ?_, vs, fun u hu hE => ?_, fun u hu hE => ?_, fun u x st hu hX => ?_⟩, ?_, by simp (disch := first | decide | assumption | omega) only [rM, rW, rL, upd_same, upd_tag, upd_num, memC_ne]⟩
  ·show _ = tup [_, .bool !(decide (fs s.E t 0 t ≠ 0))]
   rw [fs_same]; rfl
  ·obtain ⟨e1, e2, e3, e4, e5⟩ := E
   exact ⟨by simp (disch := first | decide | assumption | omega) only [rM, rW, rL, upd_same, upd_tag, upd_num, memC_ne]; exact e1, by simp (disch := first | decide | assumption | omega) only [rM, rW, rL, upd_same, upd_tag, upd_num, memC_ne]; exact e2, by simp (disch := first | decide | assumption | omega) only [rM, rW, rL, upd_same, upd_tag, upd_num, memC_ne], by simp (disch := first | decide | assumption | omega) only [rM, rW, rL, upd_same, upd_tag, upd_num, memC_ne]; exact e4, pl_length⟩
  ·show fs s.N t (s.N t + 1) i ≤ k + 1
   have := num i hi
   unfold fs; split <;> omega
  ·have hE' : fs s.E t 0 u ≠ 0 := hE
   have c : u ≠ t := fun q => by subst q; rw [fs_same] at hE'; omega
   show fs s.N t (s.N t + 1) u % 2 = 0 ∧ s.A u < 64 ∧ fs s.E t 0 u ≤ 2
   rw [fs_ne c] at hE' ⊢; rw [fs_ne c]; exact ev u hu hE'
  ·have hE' : fs s.E t 0 u ≠ 0 := hE
   have c : u ≠ t := fun q => by subst q; rw [fs_same] at hE'; omega
   show _ ∧ _ = row [_, _, _, _, I6 ((fs s.E t 0 u : Nat) - 1 : Int)]
   rw [fs_ne c] at hE' ⊢
   obtain ⟨a1, a2⟩ := en u hu hE'
   exact ⟨by simp (disch := first | decide | assumption | omega) only [rM, rW, rL, upd_same, upd_tag, upd_num, memC_ne]; exact a1, by simp (disch := first | decide | assumption | omega) only [rM, rW, rL, upd_same, upd_tag, upd_num, memC_ne]; exact a2⟩
  ·obtain ⟨a1, a2, a3, a4, a5⟩ := wa u x st hu hX
   exact ⟨a1, a2, a3, by simp (disch := first | decide | assumption | omega) only [rM, rW, rL, upd_same, upd_tag, upd_num, memC_ne]; exact a4, by simp (disch := first | decide | assumption | omega) only [rM, rW, rL, upd_same, upd_tag, upd_num, memC_ne]; exact a5⟩
  ·refine ⟨fun a b c => ?_, fun u c => ⟨by simp (disch := first | decide | assumption | omega) only [rM, rW, rL, upd_same, upd_tag, upd_num, memC_ne], by simp (disch := first | decide | assumption | omega) only [rM, rW, rL, upd_same, upd_tag, upd_num, memC_ne]⟩, by simp (disch := first | decide | assumption | omega) only [rM, rW, rL, upd_same, upd_tag, upd_num, memC_ne], by simp (disch := first | decide | assumption | omega) only [rM, rW, rL, upd_same, upd_tag, upd_num, memC_ne]⟩
   exact ⟨by simp (disch := first | decide | assumption | omega) only [rM, rW, rL, upd_same, upd_tag, upd_num, memC_ne], by simp (disch := first | decide | assumption | omega) only [rM, rW, rL, upd_same, upd_tag, upd_num, memC_ne]⟩
theorem repE_exit {ns : Nat} (hns : 0 < ns ∧ ns ≤ 64) {h : PT ABlk} {n : Nat} {d : Rl → Nat} {C : Rl → Option ABlk} {s : ES} {k t : Nat} (S : St h n d C) (R : RepE ns s k d C) (hk : k ≤ 90000) (ht : t < ns) (hi : decide (s.N t % 2 = 1) = true) (he : s.E t = 0) :
  EvB Tryz.prog OP 60 [pt (d (4, 0)), I6 t, I6 t] h n fun r h' n' => ∃ d' C' pc, r = tup [U8 pc, I6 0] ∧ pc ≠ 0 ∧ St h' n' d' C' ∧ RepE ns ((engE ns).exit s t) (k + 1) d' C' ∧ Fr d C d' C' t := by
 obtain ⟨⟨L, M⟩, E, num, vs, ev, en, wa⟩ := R
 simp only [decide_eq_true_eq] at hi
 have hnt := num t ht
 have hnl : ∀ f, (nl (2 * ns) f).length = 2 * ns := fun f => nl_length
 obtain ⟨kk, r, h', n', e, g, q1, q2, rfl, S'⟩ := eExitB (s := t) (ba := 2 * t) (base := 0) (th := t) S E M (by omega) ⟨by omega, by omega⟩ (by omega) ht (pl_get ht) ⟨by omega, by omega⟩ (by rw [tmod_nat, hi]; rfl) (by omega) (by omega) (by rw [hnl]; omega) (by rw [hnl]; omega)
 have hset : (nl (2 * ns) (wE s.N s.V)).set (2 * t) ((s.N t : Int) + 1) = nl (2 * ns) (wE (fs s.N t (s.N t + 1)) s.V) := nl_set (by rw [wE_N, fs_same]; omega) fun j _ c => wE_setN c
 rw [hset] at S'
 rw [pl_set (f' := fs s.N t (s.N t + 1)) (g' := bE s.E) (by rw [fs_same]; omega) rfl (fun j c => ⟨fs_ne c, rfl⟩)] at S'
 have hM : ∀ C g L', L'.length = (k + 1) * 6 → IsM (upd d rL g) (memC C (d rW) g (nl (2 * ns) (wE (fs s.N t (s.N t + 1)) s.V)) L' (k + 1)) (nl (2 * ns) (wE (fs s.N t (s.N t + 1)) s.V)) L' (k + 1) := fun C g L' hL => IsM.next (k := k) (C := C) (L := L) (W := nl (2 * ns) (wE s.N s.V)) (by rw [hnl, hnl]) hL
 refine ⟨kk, _, h', n', e, _, _, _, rfl, by decide, S', ⟨⟨_, hM _ _ _ (by rw [List.length_append, M.len]; show _ + 6 = _; omega)⟩, ?_, fun i hi => ?_, vs, fun u hu hE => ?_, fun u hu hE => ?_, fun u x st hu hX => ?_⟩, ?_⟩
 ·obtain ⟨e1, e2, e3, e4, e5⟩ := E
  exact ⟨by simp (disch := first | decide | assumption | omega) only [rM, rW, rL, upd_same, upd_tag, upd_num, memC_ne]; exact e1, by simp (disch := first | decide | assumption | omega) only [rM, rW, rL, upd_same, upd_tag, upd_num, memC_ne]; exact e2, by simp (disch := first | decide | assumption | omega) only [rM, rW, rL, upd_same, upd_tag, upd_num, memC_ne], by simp (disch := first | decide | assumption | omega) only [rM, rW, rL, upd_same, upd_tag, upd_num, memC_ne]; exact e4, pl_length⟩
 ·show fs s.N t (s.N t + 1) i ≤ k + 1
  have := num i hi
  unfold fs; split <;> omega
 ·have hE' : s.E u ≠ 0 := hE
  have c : u ≠ t := fun q => by subst q; omega
  show fs s.N t (s.N t + 1) u % 2 = 0 ∧ _; rw [fs_ne c]; exact ev u hu hE'
 ·obtain ⟨a1, a2⟩ := en u hu hE
  exact ⟨by simp (disch := first | decide | assumption | omega) only [rM, rW, rL, upd_same, upd_tag, upd_num, memC_ne]; exact a1, by simp (disch := first | decide | assumption | omega) only [rM, rW, rL, upd_same, upd_tag, upd_num, memC_ne]; exact a2⟩
 ·obtain ⟨a1, a2, a3, a4, a5⟩ := wa u x st hu hX
  exact ⟨a1, a2, a3, by simp (disch := first | decide | assumption | omega) only [rM, rW, rL, upd_same, upd_tag, upd_num, memC_ne]; exact a4, by simp (disch := first | decide | assumption | omega) only [rM, rW, rL, upd_same, upd_tag, upd_num, memC_ne]; exact a5⟩
 ·refine ⟨fun a b c => ?_, fun u c => ⟨by simp (disch := first | decide | assumption | omega) only [rM, rW, rL, upd_same, upd_tag, upd_num, memC_ne], by simp (disch := first | decide | assumption | omega) only [rM, rW, rL, upd_same, upd_tag, upd_num, memC_ne]⟩, by simp (disch := first | decide | assumption | omega) only [rM, rW, rL, upd_same, upd_tag, upd_num, memC_ne], by simp (disch := first | decide | assumption | omega) only [rM, rW, rL, upd_same, upd_tag, upd_num, memC_ne]⟩
  exact ⟨by simp (disch := first | decide | assumption | omega) only [rM, rW, rL, upd_same, upd_tag, upd_num, memC_ne], by simp (disch := first | decide | assumption | omega) only [rM, rW, rL, upd_same, upd_tag, upd_num, memC_ne]⟩
theorem repE_wait {ns : Nat} (hns : 0 < ns ∧ ns ≤ 64) {h : PT ABlk} {n : Nat} {d : Rl → Nat} {C : Rl → Option ABlk} {s : ES} {k t st : Nat} (S : St h n d C) (R : RepE ns s k d C) (ht : t < ns) (h0 : st ≠ 0) (h1 : st < 2 ^ 64) :
  EvB Tryz.prog OP 71 [pt (d (4, 0)), I6 t, U6 st] h n fun r h' n' => ∃ d' C', r = tup [pt (d' (10, t)), I6 0] ∧ St h' n' d' C' ∧ RepE ns ((engE ns).wait s t st) k d' C' ∧ Fr d C d' C' t := by
 obtain ⟨⟨L, M⟩, E, num, vs, ev, en, wa⟩ := R
 obtain ⟨kk, r, h', n', e, p, q, q1, q2, q3, rfl, S'⟩ := eWaitB (t := t) (base := 0) (th := t) (set := st) S E ⟨by omega, by omega⟩ (by omega)
 refine ⟨kk, _, h', n', e, _, _, by simp (disch := first | decide | assumption | omega) only [rM, rW, rL, upd_same, upd_tag, upd_num, memC_ne], S', ⟨⟨L, (((M.updC (by omega)).updC (by omega)).updD (by omega)).updD (by omega)⟩, ?_, num, vs, ev, fun u hu hE => ?_, fun u x s2 hu hX => ?_⟩, ?_⟩
 ·obtain ⟨e1, e2, e3, e4, e5⟩ := E
  exact ⟨by simp (disch := first | decide | assumption | omega) only [rM, rW, rL, upd_same, upd_tag, upd_num, memC_ne]; exact e1, by simp (disch := first | decide | assumption | omega) only [rM, rW, rL, upd_same, upd_tag, upd_num, memC_ne]; exact e2, by simp (disch := first | decide | assumption | omega) only [rM, rW, rL, upd_same, upd_tag, upd_num, memC_ne]; exact e3, by simp (disch := first | decide | assumption | omega) only [rM, rW, rL, upd_same, upd_tag, upd_num, memC_ne]; exact e4, e5⟩
 ·obtain ⟨a1, a2⟩ := en u hu hE
  exact ⟨by simp (disch := first | decide | assumption | omega) only [rM, rW, rL, upd_same, upd_tag, upd_num, memC_ne]; exact a1, by simp (disch := first | decide | assumption | omega) only [rM, rW, rL, upd_same, upd_tag, upd_num, memC_ne]; exact a2⟩
 ·have hX' : fs s.X t (some (⟨0, 0, 0⟩, st)) u = some (x, s2) := hX
  by_cases c : u = t
  ·subst c
   rw [fs_same] at hX'
   obtain ⟨rfl, rfl⟩ := Prod.mk.inj (Option.some.inj hX')
   exact ⟨hns.1, by show 0 < 3; omega, h1, by simp (disch := first | decide | assumption | omega) only [rM, rW, rL, upd_same, upd_tag, upd_num, memC_ne], by simp (disch := first | decide | assumption | omega) only [rM, rW, rL, upd_same, upd_tag, upd_num, memC_ne]; rfl⟩
  ·rw [fs_ne c] at hX'
   obtain ⟨a1, a2, a3, a4, a5⟩ := wa u x s2 hu hX'
   exact ⟨a1, a2, a3, by simp (disch := first | decide | assumption | omega) only [rM, rW, rL, upd_same, upd_tag, upd_num, memC_ne]; exact a4, by simp (disch := first | decide | assumption | omega) only [rM, rW, rL, upd_same, upd_tag, upd_num, memC_ne]; exact a5⟩
 ·refine ⟨fun a b c => ?_, fun u c => ⟨by simp (disch := first | decide | assumption | omega) only [rM, rW, rL, upd_same, upd_tag, upd_num, memC_ne], by simp (disch := first | decide | assumption | omega) only [rM, rW, rL, upd_same, upd_tag, upd_num, memC_ne]⟩, by simp (disch := first | decide | assumption | omega) only [rM, rW, rL, upd_same, upd_tag, upd_num, memC_ne], by simp (disch := first | decide | assumption | omega) only [rM, rW, rL, upd_same, upd_tag, upd_num, memC_ne]⟩
  exact ⟨by simp (disch := first | decide | assumption | omega) only [rM, rW, rL, upd_same, upd_tag, upd_num, memC_ne], by simp (disch := first | decide | assumption | omega) only [rM, rW, rL, upd_same, upd_tag, upd_num, memC_ne]⟩
theorem ew_slot {ns : Nat} {x : EW} {st w : Int} (h : x.slot < ns) (hx : x.st < 3) (he : (x.step ns st w).st ≠ 3) : (x.step ns st w).slot < ns ∧ (x.step ns st w).st < 3 := by
 have nx : ∀ y : EW, y.slot < ns → (y.next ns).st ≠ 3 → (y.next ns).slot < ns ∧ (y.next ns).st < 3 := fun y h1 h2 => by
  unfold EW.next at *
  by_cases c : y.slot + 1 = ns
  ·rw [if_pos c] at h2; exact absurd rfl h2
  ·rw [if_neg c]; exact ⟨by show y.slot + 1 < ns; omega, by show 0 < 3; omega⟩
 unfold EW.step at *
 split
 ·rename_i c; rw [if_pos c] at he
  split
  ·exact ⟨h, by show 1 < 3; omega⟩
  ·rename_i c2; rw [if_neg c2] at he; exact nx _ h he
 ·rename_i c; rw [if_neg c] at he
  split
  ·rename_i c2; rw [if_pos c2] at he
   split
   ·exact ⟨h, by show 2 < 3; omega⟩
   ·rename_i c3; rw [if_neg c3] at he; exact nx _ h he
  ·rename_i c2; rw [if_neg c2] at he
   split
   ·exact ⟨h, hx⟩
   ·rename_i c3; rw [if_neg c3] at he; exact nx _ h he
theorem repE_wstep {ns : Nat} (hns : 0 < ns ∧ ns ≤ 64) {h : PT ABlk} {n : Nat} {d : Rl → Nat} {C : Rl → Option ABlk} {s : ES} {k t : Nat} (S : St h n d C) (R : RepE ns s k d C) (hk : k ≤ 90000) (ht : t < ns) (hw : (s.X t).isSome = true) :
  EvB Tryz.prog OP 59 [pt (d (10, t))] h n fun r h' n' => ∃ d' C' pc, r = tup [U8 pc, .bool !(engE ns).wt ((engE ns).wstep s t) t] ∧ St h' n' d' C' ∧ RepE ns ((engE ns).wstep s t) (k + 1) d' C' ∧ Fr d C d' C' t ∧ d' (10, t) = d (10, t) := by
 obtain ⟨⟨L, M⟩, E, num, vs, ev, en, wa⟩ := R
 obtain ⟨⟨x, st⟩, hX⟩ := Option.isSome_iff_exists.1 hw
 obtain ⟨a1, a2, a3, a4, a5⟩ := wa t x st ht hX
 have hnt := num x.slot a1
 have hvt := vs x.slot a1
 have hnl : ∀ f, (nl (2 * ns) f).length = 2 * ns := fun f => nl_length
 have key : EvB Tryz.prog OP 59 [pt (d (10, t))] h n fun r h' n' => ∃ (g : Nat) (pc : Int) (ba : Nat) (w : Int), r = tup [U8 pc, .bool (decide ((x.step ns st (s.word x)).st = 3))] ∧ St h' n' (upd d rL g) (upd (memC C (d rW) g (nl (2 * ns) (wE s.N s.V)) (L ++ accV t ba 1 w w false) (k + 1)) (11, t) (row (ewRow (x.step ns st (s.word x)) (d (5, 0)) t st))) := by
  by_cases c1 : x.st = 1
  ·have ew : s.word x = s.V x.slot := if_pos c1
   rw [ew]
   obtain ⟨kk, r, h', n', e, g, q1, q2, rfl, S'⟩ := eMarkLB (t := t) (ba := 2 * x.slot + 1) (base := 0) (th := t) (set := st) (w := s.V x.slot) S E M (by omega) ⟨by omega, by omega⟩ (by omega) a1 (by omega) (by omega) (by rw [hnl]; omega) (by rw [hnl]; omega) (by rw [nl_getE, wE_V]) ⟨by omega, by omega⟩ ⟨by omega, by omega⟩ c1 a4 a5
   exact ⟨kk, _, h', n', e, g, _, _, _, rfl, S'⟩
  ·have ew : s.word x = s.N x.slot := if_neg c1
   rw [ew]
   by_cases c0 : x.st = 0
   ·obtain ⟨kk, r, h', n', e, g, q1, q2, rfl, S'⟩ := eLookB (t := t) (ba := 2 * x.slot) (base := 0) (th := t) (set := st) (w := s.N x.slot) S E M (by omega) ⟨by omega, by omega⟩ (by omega) a1 (by omega) (by omega) (by rw [hnl]; omega) (by rw [hnl]; omega) (by rw [nl_getE, wE_N]) ⟨by omega, by omega⟩ c0 a4 a5
    exact ⟨kk, _, h', n', e, g, _, _, _, rfl, S'⟩
   ·obtain ⟨kk, r, h', n', e, g, q1, q2, rfl, S'⟩ := eAwaitB (t := t) (ba := 2 * x.slot) (base := 0) (th := t) (set := st) (w := s.N x.slot) S E M (by omega) ⟨by omega, by omega⟩ (by omega) a1 (by omega) (by omega) (by rw [hnl]; omega) (by rw [hnl]; omega) (by rw [nl_getE, wE_N]) ⟨by omega, by omega⟩ (by omega) a4 a5
    exact ⟨kk, _, h', n', e, g, _, _, _, rfl, S'⟩
 rw [engE_wstep hX]
 obtain ⟨kk, r, h', n', e, g, pc, ba, w, rfl, S'⟩ := key
 have hM : ∀ C g L', L'.length = (k + 1) * 6 → IsM (upd d rL g) (memC C (d rW) g (nl (2 * ns) (wE s.N s.V)) L' (k + 1)) (nl (2 * ns) (wE s.N s.V)) L' (k + 1) := fun C g L' hL => IsM.next (k := k) (C := C) (L := L) (W := nl (2 * ns) (wE s.N s.V)) rfl hL
 refine ⟨kk, _, h', n', e, _, _, pc, ?_, S', ⟨⟨_, (hM _ _ _ (by rw [List.length_append, M.len]; show _ + 6 = _; omega)).updC (by omega)⟩, ?_, fun i hi => Nat.le_succ_of_le (num i hi), vs, ev, fun u hu hE => ?_, fun u y s2 hu hY => ?_⟩, ?_, by simp (disch := first | decide | assumption | omega) only [rM, rW, rL, upd_same, upd_tag, upd_num, memC_ne]⟩
 ·show _ = tup [_, .bool !((fs s.X t _ t).isSome)]
  rw [fs_same]
  by_cases c : (x.step ns st (s.word x)).st = 3
  ·rw [if_pos c, decide_eq_true c]; rfl
  ·rw [if_neg c, decide_eq_false c]; rfl
 ·obtain ⟨e1, e2, e3, e4, e5⟩ := E
  exact ⟨by simp (disch := first | decide | assumption | omega) only [rM, rW, rL, upd_same, upd_tag, upd_num, memC_ne]; exact e1, by simp (disch := first | decide | assumption | omega) only [rM, rW, rL, upd_same, upd_tag, upd_num, memC_ne]; exact e2, by simp (disch := first | decide | assumption | omega) only [rM, rW, rL, upd_same, upd_tag, upd_num, memC_ne]; exact e3, by simp (disch := first | decide | assumption | omega) only [rM, rW, rL, upd_same, upd_tag, upd_num, memC_ne]; exact e4, e5⟩
 ·obtain ⟨a1, a2⟩ := en u hu hE
  exact ⟨by simp (disch := first | decide | assumption | omega) only [rM, rW, rL, upd_same, upd_tag, upd_num, memC_ne]; exact a1, by simp (disch := first | decide | assumption | omega) only [rM, rW, rL, upd_same, upd_tag, upd_num, memC_ne]; exact a2⟩
 ·have hY' : fs s.X t _ u = some (y, s2) := hY
  by_cases c : u = t
  ·subst c
   rw [fs_same] at hY'
   by_cases he : (x.step ns st (s.word x)).st = 3
   ·rw [if_pos he] at hY'; simp at hY'
   ·rw [if_neg he] at hY'
    obtain ⟨rfl, rfl⟩ := Prod.mk.inj (Option.some.inj hY')
    obtain ⟨z1, z2⟩ := ew_slot a1 a2 he
    exact ⟨z1, z2, a3, by simp (disch := first | decide | assumption | omega) only [rM, rW, rL, upd_same, upd_tag, upd_num, memC_ne]; exact a4, by simp (disch := first | decide | assumption | omega) only [rM, rW, rL, upd_same, upd_tag, upd_num, memC_ne]⟩
  ·rw [fs_ne c] at hY'
   obtain ⟨a1, a2, a3, a4, a5⟩ := wa u y s2 hu hY'
   exact ⟨a1, a2, a3, by simp (disch := first | decide | assumption | omega) only [rM, rW, rL, upd_same, upd_tag, upd_num, memC_ne]; exact a4, by simp (disch := first | decide | assumption | omega) only [rM, rW, rL, upd_same, upd_tag, upd_num, memC_ne]; exact a5⟩
 ·refine ⟨fun a b c => ?_, fun u c => ⟨by simp (disch := first | decide | assumption | omega) only [rM, rW, rL, upd_same, upd_tag, upd_num, memC_ne], by simp (disch := first | decide | assumption | omega) only [rM, rW, rL, upd_same, upd_tag, upd_num, memC_ne]⟩, by simp (disch := first | decide | assumption | omega) only [rM, rW, rL, upd_same, upd_tag, upd_num, memC_ne], by simp (disch := first | decide | assumption | omega) only [rM, rW, rL, upd_same, upd_tag, upd_num, memC_ne]⟩
  exact ⟨by simp (disch := first | decide | assumption | omega) only [rM, rW, rL, upd_same, upd_tag, upd_num, memC_ne], by simp (disch := first | decide | assumption | omega) only [rM, rW, rL, upd_same, upd_tag, upd_num, memC_ne]⟩
theorem repE_cliC {ns : Nat} {d : Rl → Nat} {C : Rl → Option ABlk} {s : ES} {k a b : Nat} {B : Option ABlk} (R : RepE ns s k d C) (ha : 30 ≤ a) : RepE ns s k d (upd C (a, b) B) := by
 obtain ⟨⟨L, M⟩, ⟨e1, e2, e3, e4, e5⟩, num, vs, ev, en, wa⟩ := R
 refine ⟨⟨L, M.updC (by omega)⟩, ⟨by simp (disch := first | decide | assumption | omega) only [rM, rW, rL, upd_same, upd_tag, upd_num, memC_ne]; exact e1, by simp (disch := first | decide | assumption | omega) only [rM, rW, rL, upd_same, upd_tag, upd_num, memC_ne]; exact e2, by simp (disch := first | decide | assumption | omega) only [rM, rW, rL, upd_same, upd_tag, upd_num, memC_ne]; exact e3, by simp (disch := first | decide | assumption | omega) only [rM, rW, rL, upd_same, upd_tag, upd_num, memC_ne]; exact e4, e5⟩, num, vs, ev, fun u hu hE => ?_, fun u x st hu hX => ?_⟩
 ·obtain ⟨a1, a2⟩ := en u hu hE
  exact ⟨by simp (disch := first | decide | assumption | omega) only [rM, rW, rL, upd_same, upd_tag, upd_num, memC_ne]; exact a1, by simp (disch := first | decide | assumption | omega) only [rM, rW, rL, upd_same, upd_tag, upd_num, memC_ne]; exact a2⟩
 ·obtain ⟨a1, a2, a3, a4, a5⟩ := wa u x st hu hX
  exact ⟨a1, a2, a3, by simp (disch := first | decide | assumption | omega) only [rM, rW, rL, upd_same, upd_tag, upd_num, memC_ne]; exact a4, by simp (disch := first | decide | assumption | omega) only [rM, rW, rL, upd_same, upd_tag, upd_num, memC_ne]; exact a5⟩
theorem repE_cliD {ns : Nat} {d : Rl → Nat} {C : Rl → Option ABlk} {s : ES} {k a b i : Nat} (R : RepE ns s k d C) (ha : 30 ≤ a) : RepE ns s k (upd d (a, b) i) C := by
 obtain ⟨⟨L, M⟩, ⟨e1, e2, e3, e4, e5⟩, num, vs, ev, en, wa⟩ := R
 refine ⟨⟨L, M.updD (by omega)⟩, ⟨by simp (disch := first | decide | assumption | omega) only [rM, rW, rL, upd_same, upd_tag, upd_num, memC_ne]; exact e1, by simp (disch := first | decide | assumption | omega) only [rM, rW, rL, upd_same, upd_tag, upd_num, memC_ne]; exact e2, e3, e4, e5⟩, num, vs, ev, fun u hu hE => ?_, fun u x st hu hX => ?_⟩
 ·obtain ⟨a1, a2⟩ := en u hu hE
  exact ⟨by simp (disch := first | decide | assumption | omega) only [rM, rW, rL, upd_same, upd_tag, upd_num, memC_ne]; exact a1, by simp (disch := first | decide | assumption | omega) only [rM, rW, rL, upd_same, upd_tag, upd_num, memC_ne]; exact a2⟩
 ·obtain ⟨a1, a2, a3, a4, a5⟩ := wa u x st hu hX
  exact ⟨a1, a2, a3, by simp (disch := first | decide | assumption | omega) only [rM, rW, rL, upd_same, upd_tag, upd_num, memC_ne]; exact a4, by simp (disch := first | decide | assumption | omega) only [rM, rW, rL, upd_same, upd_tag, upd_num, memC_ne]; exact a5⟩
theorem faceE {ns : Nat} (hns : 0 < ns ∧ ns ≤ 64) : Face (engE ns) ns (RepE ns) := ⟨fun {h n d C s k t v} S R hk ht hv he hi hw => repE_enter hns S R ht hv (by have he' : decide (s.E t ≠ 0) = false := he; simpa using he') hi, fun {h n d C s k t} S R hk ht he hi => repE_estep hns S R hk ht (by have he' : decide (s.E t ≠ 0) = true := he; simpa using he'), fun {h n d C s k t} S R hk ht hi he => repE_exit hns S R hk ht hi (by have he' : decide (s.E t ≠ 0) = false := he; simpa using he'), fun S R hk ht h0 h1 hw => repE_wait hns S R ht h0 h1, fun S R hk ht hw => repE_wstep hns S R hk ht hw, repE_cliC, repE_cliD
 ⟩
def ES.new : ES := ⟨fun _ => 0, fun _ => 0, fun _ => 0, fun _ => 0, fun _ => none⟩
theorem wE_zero : wE (fun _ => 0) (fun _ => 0) = fun _ => 0 := by funext i; unfold wE; split <;> rfl
theorem pl_zero {ns : Nat} : pl ns (fun _ => 0) (bE fun _ => 0) = List.replicate ns (0, false) := by
 unfold pl
 apply List.ext_getElem?
 intro j
 rw [List.getElem?_replicate, List.getElem?_map]
 by_cases c : j < ns
 ·rw [if_pos c, List.getElem?_range c]; rfl
 ·rw [if_neg c, List.getElem?_eq_none (by rw [List.length_range]; omega)]; rfl
theorem repE_new {ns : Nat} {d : Rl → Nat} {C : Rl → Option ABlk} (M : IsM d C (nl (2 * ns) fun _ => 0) [] 0) (E : EngE d C 0 ns (List.replicate ns (0, false))) : RepE ns ES.new 0 d C :=
 ⟨⟨[], by show IsM d C (nl (2 * ns) (wE (fun _ => 0) fun _ => 0)) [] 0; rw [wE_zero]; exact M⟩, by show EngE d C 0 ns (pl ns (fun _ => 0) (bE fun _ => 0)); rw [pl_zero]; exact E, fun _ _ => Nat.le_refl _, fun _ _ => (by decide : 0 < 64), fun _ _ h => by simp [ES.new] at h, fun _ _ h => by simp [ES.new] at h, fun _ _ _ _ h => by simp [ES.new] at h⟩
end Go.Proofs.YtbceiadaihphaaaGreat
