/-
  A part of the proof: contracts of inner functions.
-/
import Derived.Test.YtbceiadaihphaaaGreatRX3G
set_option linter.unusedVariables false
set_option linter.unusedSimpArgs false
namespace Go.Proofs.YtbceiadaihphaaaGreat
open Go.Am
theorem lefts_some {nb st : Nat} (hnb : 0 < nb) (h0 : st ≠ 0) (h1 : st < 2 ^ 64) : ∃ b r, lefts nb (mbs 64 0 st) = b :: r := by
 obtain ⟨i, hi⟩ := Nat.exists_testBit_of_ne_zero h0
 have hm : i % nb ∈ lefts nb (mbs 64 0 st) := by
  unfold lefts
  rw [List.mem_filter]
  refine ⟨by simpa using Nat.mod_lt _ hnb, ?_⟩
  simp only [wants, List.any_eq_true, decide_eq_true_eq]
  exact ⟨i, (mem_mbs 64 0 st i h1).2 ⟨Nat.zero_le _, by rw [Nat.sub_zero]; exact hi⟩, rfl⟩
 cases hl : lefts nb (mbs 64 0 st) with
 | nil => rw [hl] at hm; simp at hm
 | cons b r => exact ⟨b, r, rfl⟩
theorem lefts_lt {nb v : Nat} {ms : List Nat} (h : v ∈ lefts nb ms) : v < nb := by
 unfold lefts at h
 simpa using (List.mem_filter.1 h).1
theorem repG_wait {ns nb : Nat} (hns : 0 < ns ∧ ns ≤ 64) {h : PT ABlk} {n : Nat} {d : Rl → Nat} {C : Rl → Option ABlk} {s : GS} {k t st : Nat} (S : St h n d C) (R : RepG ns nb s k d C) (ht : t < ns) (h0 : st ≠ 0) (h1 : st < 2 ^ 64) :
  EvB Tryz.prog OP 71 [pt (d (4, 0)), I6 t, U6 st] h n fun r h' n' => ∃ d' C', r = tup [pt (d' (10, t)), I6 0] ∧ St h' n' d' C' ∧ RepG ns nb ((engG ns nb).wait s t st) k d' C' ∧ Fr d C d' C' t := by
 have R0 := R
 obtain ⟨⟨hn0, hn1⟩, ⟨L, M⟩, ⟨X, ck, E, sx⟩, sc, sec, ow, wa⟩ := R
 have hnl : ∀ f, (nl (4 * nb) f).length = 4 * nb := fun f => nl_length
 obtain ⟨b0, r0, hl⟩ := lefts_some hn0 h0 h1
 have hlt : ∀ v, v ∈ b0 :: r0 → v < nb := fun v hv => lefts_lt (ms := mbs 64 0 st) (by rw [hl]; exact hv)
 have hb0 := hlt b0 (by simp)
 obtain ⟨kk, r, h', n', e, w, p, q, g, q1, q2, q3, q4, q5, rfl, S'⟩ := gWaitB (t := t) (ba := 4 * b0 + 3) (b0 := b0) (base := 0) (th := t) (s := st) S E M ⟨by omega, by omega⟩ (by rw [hnl]; omega) (by rw [hnl]; omega) ⟨by omega, by omega⟩ ⟨hn0, hn1⟩ h1 h0 (by rw [hl]; rfl) (by omega) hb0
 rw [hl] at S'
 have hXt : ((engG ns nb).wait s t st).X t = some ⟨b0 :: r0, 0, false⟩ := by show fs s.X t _ t = _; rw [fs_same, hl]
 refine ⟨kk, _, h', n', e, _, _, by simp (disch := first | decide | assumption | omega) only [rM, rW, rL, upd_same, upd_tag, upd_num, memC_ne], S', repG_w (L' := L) R0 ht (Nat.le_refl _) rfl (fun u c => fs_ne c) (fun u x b r hu hx hlx hp => ?_) (fun a b h1 h2 => ?_) (fun a b h1 h2 => ?_) ?_ (fun x hx => ?_), ?_⟩
 ·by_cases c : u = t
  ·subst c
   rw [hXt] at hx
   obtain rfl := Option.some.inj hx
   exact absurd hp (Nat.not_succ_le_zero 0)
  ·exact ow u x b r hu ((fs_ne c).symm.trans hx) hlx hp
 ·rw [upd_ne (by simp; omega), upd_ne (by simp; omega), upd_ne (by simp; omega), upd_ne (by simp; omega), upd_ne (by simp; omega)]
 ·rw [upd_ne (by simp; omega), upd_ne (by simp; omega), upd_ne (by simp; omega), upd_ne (by simp; omega)]
 ·exact ((((((((M.updC (by omega)).updC (by omega)).updC (by omega)).updC (by omega)).updC (by omega)).updD (by omega)).updD (by omega)).updD (by omega)).updD (by omega)
 ·rw [hXt] at hx
  obtain rfl := Option.some.inj hx
  exact ⟨0, 0, (b0 :: r0).map fun v : Nat => (v : Int), b0, r0, rfl, rfl, hlt, Nat.zero_le _, Nat.zero_le _, by simp (disch := first | decide | assumption | omega) only [rM, rW, rL, upd_same, upd_tag, upd_num, memC_ne], by simp (disch := first | decide | assumption | omega) only [rM, rW, rL, upd_same, upd_tag, upd_num, memC_ne]; rw [List.map_map]; rfl, by simp (disch := first | decide | assumption | omega) only [rM, rW, rL, upd_same, upd_tag, upd_num, memC_ne]; rfl, fun _ => by simp (disch := first | decide | assumption | omega) only [rM, rW, rL, upd_same, upd_tag, upd_num, memC_ne]; rfl⟩
 ·exact ⟨fun a b c => ⟨by simp (disch := first | decide | assumption | omega) only [rM, rW, rL, upd_same, upd_tag, upd_num, memC_ne], by simp (disch := first | decide | assumption | omega) only [rM, rW, rL, upd_same, upd_tag, upd_num, memC_ne]⟩, fun u c => ⟨by simp (disch := first | decide | assumption | omega) only [rM, rW, rL, upd_same, upd_tag, upd_num, memC_ne], by simp (disch := first | decide | assumption | omega) only [rM, rW, rL, upd_same, upd_tag, upd_num, memC_ne]⟩, by simp (disch := first | decide | assumption | omega) only [rM, rW, rL, upd_same, upd_tag, upd_num, memC_ne], by simp (disch := first | decide | assumption | omega) only [rM, rW, rL, upd_same, upd_tag, upd_num, memC_ne]⟩
def WOut (ns nb : Nat) (s : GS) (k t : Nat) (d : Rl → Nat) (C : Rl → Option ABlk) (r : Value) (h' : PT ABlk) (n' : Nat) : Prop := ∃ d' C' pc, r = tup [U8 pc, .bool !((s.goW ns t).X t).isSome] ∧ St h' n' d' C' ∧ RepG ns nb (s.goW ns t) (k + 1) d' C' ∧ Fr d C d' C' t ∧ d' (10, t) = d (10, t)
theorem fr_mem {d : Rl → Nat} {C : Rl → Option ABlk} {g k t : Nat} {W : List Int} {L : List Value} {B : Option ABlk} : Fr d C (upd d rL g) (upd (memC C (d rW) g W L k) (11, t) B) t :=
 ⟨fun a b c => ⟨by simp (disch := first | decide | assumption | omega) only [rM, rW, rL, upd_same, upd_tag, upd_num, memC_ne], by simp (disch := first | decide | assumption | omega) only [rM, rW, rL, upd_same, upd_tag, upd_num, memC_ne]⟩, fun u c => ⟨by simp (disch := first | decide | assumption | omega) only [rM, rW, rL, upd_same, upd_tag, upd_num, memC_ne], by simp (disch := first | decide | assumption | omega) only [rM, rW, rL, upd_same, upd_tag, upd_num, memC_ne]⟩, by simp (disch := first | decide | assumption | omega) only [rM, rW, rL, upd_same, upd_tag, upd_num, memC_ne], by simp (disch := first | decide | assumption | omega) only [rM, rW, rL, upd_same, upd_tag, upd_num, memC_ne]⟩
theorem wout_of {ns nb : Nat} {h' : PT ABlk} {n' : Nat} {d : Rl → Nat} {C : Rl → Option ABlk} {s s' : GS} {k t g : Nat} {L' : List Value} {W : List Int} {ph' : Nat} {sd' : Bool} {x : GW} {pc : Int} {off fl : Nat} {Lf : List Int} {b : Nat} {r : List Nat} (R : RepG ns nb s k d C) (ht : t < ns) (hX : s.X t = some x) (w : WaitRow nb x d C t k off fl Lf b r) (hp : ph' ≤ 5) (hp0 : 0 < ph') (hW : W = nl (4 * nb) (wG ns s')) (hlen : L'.length = (k + 1) * 6)
  (S' : St h' n' (upd d rL g) (upd (memC C (d rW) g W L' (k + 1)) (11, t) (row (gwRow (d (5, 0)) t (d (12, t)) off (r.length + 1) (capInf + 1) (d (13, t)) sd'.toNat (gpc ph') (gfn ph')))))
  (hs : s.goW ns t = s') (hS : s'.S = s.S) (hX' : s'.X = fs s.X t (some ⟨b :: r, ph', sd'⟩)) (hK : s'.K b = some t ∧ ∀ b', b' ≠ b → s'.K b' = s.K b') (hown : ∀ u, u ≠ t → s.K b ≠ some u) : WOut ns nb s k t d C (tup [U8 pc, .bool false]) h' n' := by
 subst hs hW
 have hXt : (s.goW ns t).X t = some ⟨b :: r, ph', sd'⟩ := by rw [hX', fs_same]
 refine ⟨_, _, pc, by rw [hXt]; rfl, S', repG_w (L' := L') R ht (Nat.le_succ _) hS (fun u c => by rw [hX', fs_ne c]) (fun u y b' r' hu hy hl hp' => ?_) (fun a b h1 h2 => ?_) (fun a b h1 h2 => ?_) ?_ (fun y hy => ?_), fr_mem, by simp (disch := first | decide | assumption | omega) only [rM, rW, rL, upd_same, upd_tag, upd_num, memC_ne]⟩
 ·by_cases c : u = t
  ·subst c
   rw [hXt] at hy
   obtain rfl := Option.some.inj hy
   obtain ⟨rfl, rfl⟩ := List.cons.inj hl
   exact hK.1
  ·rw [hX', fs_ne c] at hy
   have := R.own u y b' r' hu hy hl hp'
   by_cases cb : b' = b
   ·subst cb; exact absurd this (hown u c)
   ·rw [hK.2 b' cb]; exact this
 ·rw [upd_ne (by simp; omega), memC_ne h1]
 ·rw [upd_ne h1]
 ·obtain ⟨L, M⟩ := R.mem
  exact (IsM.next (L := L) (W := nl (4 * nb) (wG ns s)) (by rw [nl_length, nl_length]) hlen).updC (by omega)
 ·rw [hXt] at hy
  obtain rfl := Option.some.inj hy
  exact ⟨off, fl, Lf, b, r, rfl, w.list, w.lt, Nat.le_succ_of_le w.hfl, hp, by simp (disch := first | decide | assumption | omega) only [rM, rW, rL, upd_same, upd_tag, upd_num, memC_ne]; exact w.r10, by simp (disch := first | decide | assumption | omega) only [rM, rW, rL, upd_same, upd_tag, upd_num, memC_ne]; exact w.r12, by simp (disch := first | decide | assumption | omega) only [rM, rW, rL, upd_same, upd_tag, upd_num, memC_ne], fun q => by simp only at q; omega⟩
end Go.Proofs.YtbceiadaihphaaaGreat
set_option linter.unusedVariables false
set_option linter.unusedSimpArgs false
namespace Go.Proofs.YtbceiadaihphaaaGreat
open Go.Am
theorem goW_eq {s : GS} {ns t b ph : Nat} {r : List Nat} {sd : Bool} (h : s.X t = some ⟨b :: r, ph, sd⟩) : s.goW ns t = if ph = 0 then (if s.K b = none then { s with K := fs s.K b (some t), X := fs s.X t (some ⟨b :: r, 1, sd⟩) } else s)
   else if ph = 1 then { s with X := fs s.X t (some ⟨b :: r, 2, s.G b⟩) }
   else if ph = 2 then (if s.cnt ns b (!sd) = 0 then { s with X := fs s.X t (some ⟨b :: r, 3, sd⟩) } else s)
   else if ph = 3 then { s with G := fs s.G b (!sd), X := fs s.X t (some ⟨b :: r, 4, sd⟩) }
   else if ph = 4 then (if s.cnt ns b sd = 0 then { s with X := fs s.X t (some ⟨b :: r, 5, sd⟩) } else s)
   else { s with K := fs s.K b none, X := fs s.X t (if r = [] then none else some ⟨r, 0, sd⟩) } := by
 unfold GS.goW; rw [h]
theorem drop_get {Lf : List Int} {off b : Nat} {r : List Nat} (h : Lf.drop off = (b :: r).map fun v : Nat => (v : Int)) : Lf[off]? = some (b : Int) := by
 have := congrArg (fun l => l[0]?) h
 simp only [List.getElem?_drop, Nat.add_zero] at this
 exact this
theorem drop_next {Lf : List Int} {off b : Nat} {r : List Nat} (h : Lf.drop off = (b :: r).map fun v : Nat => (v : Int)) : Lf.drop (off + 1) = r.map fun v : Nat => (v : Int) := by
 rw [← List.drop_drop, h]; rfl
theorem acc_len {L : List Value} {k : Nat} {th a kd o n : Int} {sw : Bool} (h : L.length = k * 6) : (L ++ accV th a kd o n sw).length = (k + 1) * 6 := by
 rw [List.length_append, h]; show _ + 6 = _; omega
theorem toNat_lt (b : Bool) : b.toNat < 2 := by cases b <;> decide
theorem toNat_not (b : Bool) : ((!b).toNat : Int) = 1 - (b.toNat : Int) := by cases b <;> rfl
theorem wG_same {ns : Nat} {s s' : GS} (hG : s'.G = s.G) (hS : s'.S = s.S) (hK : s'.K = s.K) : wG ns s' = wG ns s := by
 funext j
 exact wG_ext (i0 := j + 1) (fun b _ => by rw [hG]) (fun b sd _ => by unfold GS.cnt; rw [hS]) (fun b _ => by rw [hK]) j (by omega)
theorem repG_wstep1 {ns nb : Nat} (hns : 0 < ns ∧ ns ≤ 64) {h : PT ABlk} {n : Nat} {d : Rl → Nat} {C : Rl → Option ABlk} {s : GS} {k t b ph : Nat} {r : List Nat} {sd : Bool} (S : St h n d C) (R : RepG ns nb s k d C) (hk : k ≤ 90000) (ht : t < ns) (hX : s.X t = some ⟨b :: r, ph, sd⟩) (hp : ph = 1 ∨ ph = 2 ∨ ph = 3 ∨ ph = 4) :
  EvB Tryz.prog OP 59 [pt (d (10, t))] h n fun v h' n' => WOut ns nb s k t d C v h' n' := by
 have R0 := R
 obtain ⟨⟨hn0, hn1⟩, ⟨L, M⟩, ⟨X, ck, E, sx⟩, sc, sec, ow, wa⟩ := R
 obtain ⟨off, fl, Lf, b', r', w⟩ := wa t _ ht hX
 obtain ⟨rfl, rfl⟩ := List.cons.inj w.left
 have hbn := w.lt b (by simp)
 have hnl : ∀ f, (nl (4 * nb) f).length = 4 * nb := fun f => nl_length
 have hL := drop_get w.list
 have hKb := ow t _ b r ht hX rfl (by simp only; omega)
 have hown : ∀ u, u ≠ t → s.K b ≠ some u := fun u c q => by rw [hKb] at q; exact c (Option.some.inj q).symm
 have hsd := toNat_lt sd
 have hsn := toNat_lt (!sd)
 have hsv := toNat_not sd
 have w11 := w.r11
 have ge := goW_eq (ns := ns) hX
 rcases hp with rfl | rfl | rfl | rfl
 ·obtain ⟨kk, v, h', n', e, g, q1, q2, rfl, S'⟩ := gLooksB (nb := nb) (off := off) (len := r.length + 1) (cap := capInf + 1) (ba := 4 * b) (base := 0) (th := t) (b := b) (side := (sd.toNat : Int)) (Lf := Lf) S M (by omega) E.eng w.r10 w11 w.r12 (by omega) hL ⟨by omega, by omega⟩ ⟨by omega, by omega⟩ ⟨by omega, by omega⟩ (by omega) (by rw [hnl]; omega) (by rw [hnl]; omega) sc
  rw [nl_getE, wG_0] at S'
  exact ⟨kk, _, h', n', e, wout_of (ph' := 2) (sd' := s.G b) R0 ht hX w (by omega) (by omega) (by rw [wG_same] <;> rfl) (acc_len M.len) S' ge rfl rfl ⟨hKb, fun _ _ => rfl⟩ hown⟩
 ·obtain ⟨kk, v, h', n', e, g, q1, q2, rfl, S'⟩ := gOtherB (nb := nb) (off := off) (len := r.length + 1) (cap := capInf + 1) (ba := 4 * b + 1 + (!sd).toNat) (base := 0) (th := t) (b := b) (side := (sd.toNat : Int)) (Lf := Lf) S M (by omega) E.eng w.r10 w11 w.r12 (by omega) hL ⟨by omega, by omega⟩ ⟨by omega, by omega⟩ ⟨by omega, by omega⟩ ⟨by omega, by omega⟩ (by omega) (by rw [hnl]; omega) (by rw [hnl]; omega) sc
  rw [nl_getE, wG_c] at S'
  by_cases c : s.cnt ns b (!sd) = 0
  ·rw [if_pos (by omega), if_pos (by omega)] at S'
   rw [if_neg (by omega), if_neg (by omega), if_pos rfl, if_pos c] at ge
   exact ⟨kk, _, h', n', e, wout_of (ph' := 3) (sd' := sd) R0 ht hX w (by omega) (by omega) (by rw [wG_same] <;> rfl) (acc_len M.len) S' ge rfl rfl ⟨hKb, fun _ _ => rfl⟩ hown⟩
  ·rw [if_neg (by omega), if_neg (by omega)] at S'
   rw [if_neg (by omega), if_neg (by omega), if_pos rfl, if_neg c] at ge
   exact ⟨kk, _, h', n', e, wout_of (ph' := 2) (sd' := sd) R0 ht hX w (by omega) (by omega) rfl (acc_len M.len) S' ge rfl (fs_id hX).symm ⟨hKb, fun _ _ => rfl⟩ hown⟩
 ·obtain ⟨kk, v, h', n', e, g, q1, q2, rfl, S'⟩ := gFlipsB (nb := nb) (off := off) (len := r.length + 1) (cap := capInf + 1) (ba := 4 * b) (base := 0) (th := t) (b := b) (side := (sd.toNat : Int)) (Lf := Lf) S M (by omega) E.eng w.r10 w11 w.r12 (by omega) hL ⟨by omega, by omega⟩ ⟨by omega, by omega⟩ ⟨by omega, by omega⟩ ⟨by omega, by omega⟩ (by omega) (by rw [hnl]; omega) (by rw [hnl]; omega) sc
  rw [if_neg (by omega), if_neg (by omega), if_neg (by omega), if_pos rfl] at ge
  have hset : (nl (4 * nb) (wG ns s)).set (4 * b) (1 - (sd.toNat : Int)) = nl (4 * nb) (wG ns { s with G := fs s.G b (!sd), X := fs s.X t (some ⟨b :: r, 4, sd⟩) }) := nl_set (by rw [wG_0]; show _ = ((fs s.G b (!sd) b).toNat : Int); rw [fs_same, hsv]) fun j _ c => wG_ext (s := s) (s' := { s with G := fs s.G b (!sd), X := fs s.X t (some ⟨b :: r, 4, sd⟩) }) (fun b' hb' => fs_ne (fun q => hb' (by rw [q]))) (fun _ _ _ => rfl) (fun _ _ => rfl) j c
  exact ⟨kk, _, h', n', e, wout_of (ph' := 4) (sd' := sd) R0 ht hX w (by omega) (by omega) hset (acc_len M.len) S' ge rfl rfl ⟨hKb, fun _ _ => rfl⟩ hown⟩
 ·obtain ⟨kk, v, h', n', e, g, q1, q2, rfl, S'⟩ := gDrainsB (nb := nb) (off := off) (len := r.length + 1) (cap := capInf + 1) (ba := 4 * b + 1 + sd.toNat) (base := 0) (th := t) (b := b) (side := (sd.toNat : Int)) (Lf := Lf) S M (by omega) E.eng w.r10 w11 w.r12 (by omega) hL ⟨by omega, by omega⟩ ⟨by omega, by omega⟩ ⟨by omega, by omega⟩ ⟨by omega, by omega⟩ (by omega) (by rw [hnl]; omega) (by rw [hnl]; omega) sc
  rw [nl_getE, wG_c] at S'
  by_cases c : s.cnt ns b sd = 0
  ·rw [if_pos (by omega), if_pos (by omega)] at S'
   rw [if_neg (by omega), if_neg (by omega), if_neg (by omega), if_neg (by omega), if_pos rfl, if_pos c] at ge
   exact ⟨kk, _, h', n', e, wout_of (ph' := 5) (sd' := sd) R0 ht hX w (by omega) (by omega) (by rw [wG_same] <;> rfl) (acc_len M.len) S' ge rfl rfl ⟨hKb, fun _ _ => rfl⟩ hown⟩
  ·rw [if_neg (by omega), if_neg (by omega)] at S'
   rw [if_neg (by omega), if_neg (by omega), if_neg (by omega), if_neg (by omega), if_pos rfl, if_neg c] at ge
   exact ⟨kk, _, h', n', e, wout_of (ph' := 4) (sd' := sd) R0 ht hX w (by omega) (by omega) rfl (acc_len M.len) S' ge rfl (fs_id hX).symm ⟨hKb, fun _ _ => rfl⟩ hown⟩
theorem repG_wstep0 {ns nb : Nat} (hns : 0 < ns ∧ ns ≤ 64) {h : PT ABlk} {n : Nat} {d : Rl → Nat} {C : Rl → Option ABlk} {s : GS} {k t b : Nat} {r : List Nat} {sd : Bool} (S : St h n d C) (R : RepG ns nb s k d C) (hk : k ≤ 90000) (ht : t < ns) (hX : s.X t = some ⟨b :: r, 0, sd⟩) :
  EvB Tryz.prog OP 59 [pt (d (10, t))] h n fun v h' n' => WOut ns nb s k t d C v h' n' := by
 have R0 := R
 obtain ⟨⟨hn0, hn1⟩, ⟨L, M⟩, ⟨X, ck, E, sx⟩, sc, sec, ow, wa⟩ := R
 obtain ⟨off, fl, Lf, b', r', w⟩ := wa t _ ht hX
 obtain ⟨rfl, rfl⟩ := List.cons.inj w.left
 have hbn := w.lt b (by simp)
 have hfl := w.hfl
 have hnl : ∀ f, (nl (4 * nb) f).length = 4 * nb := fun f => nl_length
 have hL := drop_get w.list
 have w11 := w.r11
 have w13 := w.r13 rfl
 have ge := goW_eq (ns := ns) hX
 rw [if_pos rfl] at ge
 have hgK : (nl (4 * nb) (wG ns s))[4 * b + 3]'(by rw [hnl]; omega) = ((lkW (s.K b) : Nat) : Int) := by rw [nl_getE, wG_3]
 cases hK : s.K b with
 | none =>
  rw [hK] at hgK ge
  rw [if_pos rfl] at ge
  obtain ⟨kk, v, h', n', e, g, q1, q2, rfl, S'⟩ := gLocksB (nb := nb) (off := off) (len := r.length + 1) (cap := capInf + 1) (ba := 4 * b + 3) (base := 0) (th := t) (b := b) (side := (sd.toNat : Int)) (fl := fl) (Lf := Lf) S M (by omega) E.eng w.r10 w11 w13 ⟨by omega, by omega⟩ w.r12 (by omega) hL ⟨by omega, by omega⟩ ⟨by omega, by omega⟩ ⟨by omega, by omega⟩ (by omega) (by rw [hnl]; omega) (by rw [hnl]; omega) sc hgK
  have hset : (nl (4 * nb) (wG ns s)).set (4 * b + 3) ((t : Int) + 1) = nl (4 * nb) (wG ns (s.goW ns t)) := by
   rw [ge]
   exact nl_set (by rw [wG_3]; show _ = ((lkW (fs s.K b (some t) b) : Nat) : Int); rw [fs_same]; show (t : Int) + 1 = ((t + 1 : Nat) : Int); omega) fun j _ c => wG_ext (s := s) (s' := { s with K := fs s.K b (some t), X := fs s.X t (some ⟨b :: r, 1, sd⟩) }) (fun _ _ => rfl) (fun _ _ _ => rfl) (fun b' hb' => fs_ne (fun q => hb' (by rw [q]))) j c
  rw [hset] at S'
  have hXt : (s.goW ns t).X t = some ⟨b :: r, 1, sd⟩ := by rw [ge]; exact fs_same
  refine ⟨kk, _, h', n', e, _, _, 2, by rw [hXt]; rfl, S', repG_w (L' := L ++ accV t (4 * b + 3 : Nat) 4 0 ((t : Int) + 1) true) R0 ht (Nat.le_succ _) (by rw [ge]) (fun u c => by rw [ge]; exact fs_ne c) (fun u y b' r' hu hy hl hp' => ?_) (fun a b h1 h2 => ?_) (fun a b h1 h2 => ?_) ?_ (fun y hy => ?_), ?_, by simp (disch := first | decide | assumption | omega) only [rM, rW, rL, upd_same, upd_tag, upd_num, memC_ne]⟩
  ·rw [ge] at hy ⊢
   show fs s.K b (some t) b' = some u
   by_cases c : u = t
   ·subst c
    have hy' : fs s.X u _ u = some y := hy
    rw [fs_same] at hy'
    obtain rfl := Option.some.inj hy'
    obtain ⟨rfl, rfl⟩ := List.cons.inj hl
    exact fs_same
   ·have hy' : fs s.X t _ u = some y := hy
    rw [fs_ne c] at hy'
    have := ow u y b' r' hu hy' hl hp'
    rw [fs_ne (fun q => by rw [q, hK] at this; simp at this)]
    exact this
  ·rw [upd_ne (by simp; omega), upd_ne (by simp; omega), memC_ne h1]
  ·rw [upd_ne h1]
  ·exact ((IsM.next (L := L) (W := nl (4 * nb) (wG ns s)) (by rw [hnl, hnl]) (acc_len M.len)).updC (by omega)).updC (by omega)
  ·rw [hXt] at hy
   obtain rfl := Option.some.inj hy
   exact ⟨off, fl, Lf, b, r, rfl, w.list, w.lt, Nat.le_succ_of_le hfl, (by show 1 ≤ 5; omega), by simp (disch := first | decide | assumption | omega) only [rM, rW, rL, upd_same, upd_tag, upd_num, memC_ne]; exact w.r10, by simp (disch := first | decide | assumption | omega) only [rM, rW, rL, upd_same, upd_tag, upd_num, memC_ne]; exact w.r12, by simp (disch := first | decide | assumption | omega) only [rM, rW, rL, upd_same, upd_tag, upd_num, memC_ne]; rfl, fun q => by simp at q⟩
  ·exact ⟨fun a b c => ⟨by simp (disch := first | decide | assumption | omega) only [rM, rW, rL, upd_same, upd_tag, upd_num, memC_ne], by simp (disch := first | decide | assumption | omega) only [rM, rW, rL, upd_same, upd_tag, upd_num, memC_ne]⟩, fun u c => ⟨by simp (disch := first | decide | assumption | omega) only [rM, rW, rL, upd_same, upd_tag, upd_num, memC_ne], by simp (disch := first | decide | assumption | omega) only [rM, rW, rL, upd_same, upd_tag, upd_num, memC_ne]⟩, by simp (disch := first | decide | assumption | omega) only [rM, rW, rL, upd_same, upd_tag, upd_num, memC_ne], by simp (disch := first | decide | assumption | omega) only [rM, rW, rL, upd_same, upd_tag, upd_num, memC_ne]⟩
 | some u0 =>
  rw [hK] at hgK ge
  rw [if_neg (by simp)] at ge
  have hne : (nl (4 * nb) (wG ns s))[4 * b + 3]'(by rw [hnl]; omega) ≠ 0 := by rw [hgK]; show ((u0 + 1 : Nat) : Int) ≠ 0; omega
  obtain ⟨kk, v, h', n', e, g, q1, q2, rfl, S'⟩ := gLockedB (nb := nb) (off := off) (len := r.length + 1) (cap := capInf + 1) (ba := 4 * b + 3) (base := 0) (th := t) (b := b) (side := (sd.toNat : Int)) (fl := fl) (Lf := Lf) S M (by omega) E.eng w.r10 w11 w13 ⟨by omega, by omega⟩ w.r12 (by omega) hL ⟨by omega, by omega⟩ ⟨by omega, by omega⟩ ⟨by omega, by omega⟩ (by omega) (by rw [hnl]; omega) (by rw [hnl]; omega) sc hne
  have hXt : (s.goW ns t).X t = some ⟨b :: r, 0, sd⟩ := by rw [ge]; exact hX
  refine ⟨kk, _, h', n', e, _, _, 2, by rw [hXt]; rfl, S', repG_w (L' := L ++ accV t (4 * b + 3 : Nat) 4 ((nl (4 * nb) (wG ns s))[4 * b + 3]'(by rw [hnl]; omega)) ((nl (4 * nb) (wG ns s))[4 * b + 3]'(by rw [hnl]; omega)) false) R0 ht (Nat.le_succ _) (by rw [ge]) (fun u c => by rw [ge]) (fun u y b' r' hu hy hl hp' => ?_) (fun a b h1 h2 => ?_) (fun a b h1 h2 => ?_) ?_ (fun y hy => ?_), ?_, by simp (disch := first | decide | assumption | omega) only [rM, rW, rL, upd_same, upd_tag, upd_num, memC_ne]⟩
  ·rw [ge] at hy ⊢
   exact ow u y b' r' hu hy hl hp'
  ·rw [upd_ne (by simp; omega), upd_ne (by simp; omega), memC_ne h1]
  ·rw [upd_ne h1]
  ·rw [ge]
   exact ((IsM.next (L := L) (W := nl (4 * nb) (wG ns s)) rfl (acc_len M.len)).updC (by omega)).updC (by omega)
  ·rw [hXt] at hy
   obtain rfl := Option.some.inj hy
   exact ⟨off, fl + 1, Lf, b, r, rfl, w.list, w.lt, Nat.succ_le_succ hfl, (by show 0 ≤ 5; omega), by simp (disch := first | decide | assumption | omega) only [rM, rW, rL, upd_same, upd_tag, upd_num, memC_ne]; exact w.r10, by simp (disch := first | decide | assumption | omega) only [rM, rW, rL, upd_same, upd_tag, upd_num, memC_ne]; exact w.r12, by simp (disch := first | decide | assumption | omega) only [rM, rW, rL, upd_same, upd_tag, upd_num, memC_ne]; rfl, fun _ => by simp (disch := first | decide | assumption | omega) only [rM, rW, rL, upd_same, upd_tag, upd_num, memC_ne]; rfl⟩
  ·exact ⟨fun a b c => ⟨by simp (disch := first | decide | assumption | omega) only [rM, rW, rL, upd_same, upd_tag, upd_num, memC_ne], by simp (disch := first | decide | assumption | omega) only [rM, rW, rL, upd_same, upd_tag, upd_num, memC_ne]⟩, fun u c => ⟨by simp (disch := first | decide | assumption | omega) only [rM, rW, rL, upd_same, upd_tag, upd_num, memC_ne], by simp (disch := first | decide | assumption | omega) only [rM, rW, rL, upd_same, upd_tag, upd_num, memC_ne]⟩, by simp (disch := first | decide | assumption | omega) only [rM, rW, rL, upd_same, upd_tag, upd_num, memC_ne], by simp (disch := first | decide | assumption | omega) only [rM, rW, rL, upd_same, upd_tag, upd_num, memC_ne]⟩
theorem repG_wstep5 {ns nb : Nat} (hns : 0 < ns ∧ ns ≤ 64) {h : PT ABlk} {n : Nat} {d : Rl → Nat} {C : Rl → Option ABlk} {s : GS} {k t b : Nat} {r : List Nat} {sd : Bool} (S : St h n d C) (R : RepG ns nb s k d C) (hk : k ≤ 90000) (ht : t < ns) (hX : s.X t = some ⟨b :: r, 5, sd⟩) :
  EvB Tryz.prog OP 59 [pt (d (10, t))] h n fun v h' n' => WOut ns nb s k t d C v h' n' := by
 have R0 := R
 obtain ⟨⟨hn0, hn1⟩, ⟨L, M⟩, ⟨X, ck, E, sx⟩, sc, sec, ow, wa⟩ := R
 obtain ⟨off, fl, Lf, b', r', w⟩ := wa t _ ht hX
 obtain ⟨rfl, rfl⟩ := List.cons.inj w.left
 have hbn := w.lt b (by simp)
 have hnl : ∀ f, (nl (4 * nb) f).length = 4 * nb := fun f => nl_length
 have hL := drop_get w.list
 have hnx := drop_next w.list
 have w11 := w.r11
 have ge := goW_eq (ns := ns) hX
 rw [if_neg (by omega), if_neg (by omega), if_neg (by omega), if_neg (by omega), if_neg (by omega)] at ge
 have hKb := ow t _ b r ht hX rfl (by simp)
 have hgK : (nl (4 * nb) (wG ns s))[4 * b + 3]'(by rw [hnl]; omega) = (t : Int) + 1 := by rw [nl_getE, wG_3, hKb]; show ((t + 1 : Nat) : Int) = _; omega
 have hset : (nl (4 * nb) (wG ns s)).set (4 * b + 3) 0 = nl (4 * nb) (wG ns (s.goW ns t)) := by
  rw [ge]
  exact nl_set (by rw [wG_3]; show _ = ((lkW (fs s.K b none b) : Nat) : Int); rw [fs_same]; rfl) fun j _ c => wG_ext (s := s) (s' := { s with K := fs s.K b none, X := fs s.X t (if r = [] then none else some ⟨r, 0, sd⟩) }) (fun _ _ => rfl) (fun _ _ _ => rfl) (fun b' hb' => fs_ne (fun q => hb' (by rw [q]))) j c
 have hown : ∀ u y b' r', u < ns → u ≠ t → (s.goW ns t).X u = some y → y.left = b' :: r' → 1 ≤ y.ph → (s.goW ns t).K b' = some u := fun u y b' r' hu c hy hl hp' => by
  rw [ge] at hy ⊢
  have hy' : fs s.X t _ u = some y := hy
  rw [fs_ne c] at hy'
  have := ow u y b' r' hu hy' hl hp'
  show fs s.K b none b' = some u
  rw [fs_ne (fun q => by rw [q, hKb] at this; exact c (Option.some.inj this).symm)]
  exact this
 cases r with
 | nil =>
  obtain ⟨kk, v, h', n', e, g, q1, q2, rfl, S'⟩ := gUnlockEndB (nb := nb) (off := off) (ba := 4 * b + 3) (base := 0) (th := t) (b := b) (side := (sd.toNat : Int)) (Lf := Lf) S M (by omega) E.eng w.r10 w11 w.r12 hL ⟨by omega, by omega⟩ ⟨by omega, by omega⟩ ⟨by omega, by omega⟩ (by omega) (by rw [hnl]; omega) (by rw [hnl]; omega) sc hgK
  rw [hset] at S'
  have hXt : (s.goW ns t).X t = none := by rw [ge]; exact fs_same
  refine ⟨kk, _, h', n', e, _, _, 3, by rw [hXt]; rfl, S', repG_w (L' := L ++ accV t (4 * b + 3 : Nat) 2 ((t : Int) + 1) 0 false) R0 ht (Nat.le_succ _) (by rw [ge]) (fun u c => by rw [ge]; exact fs_ne c) (fun u y b' r' hu hy hl hp' => ?_) (fun a b h1 h2 => ?_) (fun a b h1 h2 => ?_) ?_ (fun y hy => ?_), fr_mem, by simp (disch := first | decide | assumption | omega) only [rM, rW, rL, upd_same, upd_tag, upd_num, memC_ne]⟩
  ·by_cases c : u = t
   ·subst c; rw [hXt] at hy; simp at hy
   ·exact hown u y b' r' hu c hy hl hp'
  ·rw [upd_ne (by simp; omega), memC_ne h1]
  ·rw [upd_ne h1]
  ·exact (IsM.next (L := L) (W := nl (4 * nb) (wG ns s)) (by rw [hnl, hnl]) (acc_len M.len)).updC (by omega)
  ·rw [hXt] at hy; simp at hy
 | cons b2 r2 =>
  have hb2 := w.lt b2 (by simp)
  have hL2 := drop_get hnx
  obtain ⟨kk, v, h', n', e, g, g3, q1, q2, q3, rfl, S'⟩ := gUnlockB (nb := nb) (off := off) (len := r2.length + 1 + 1) (ba := 4 * b + 3) (ba2 := 4 * b2 + 3) (base := 0) (th := t) (b := b) (b2 := b2) (side := (sd.toNat : Int)) (Lf := Lf) S M (by omega) E.eng w.r10 w11 w.r12 (by omega) hL hL2 ⟨by omega, by omega⟩ ⟨by omega, by omega⟩ ⟨by omega, by omega⟩ ⟨by omega, by omega⟩ (by omega) (by rw [hnl]; omega) (by omega) (by rw [hnl]; omega) (by rw [hnl]; omega) sc hgK
  rw [hset] at S'
  have hXt : (s.goW ns t).X t = some ⟨b2 :: r2, 0, sd⟩ := by rw [ge]; exact fs_same
  refine ⟨kk, _, h', n', e, _, _, 3, by rw [hXt]; rfl, S', repG_w (L' := L ++ accV t (4 * b + 3 : Nat) 2 ((t : Int) + 1) 0 false) R0 ht (Nat.le_succ _) (by rw [ge]) (fun u c => by rw [ge]; exact fs_ne c) (fun u y b' r' hu hy hl hp' => ?_) (fun a b h1 h2 => ?_) (fun a b h1 h2 => ?_) ?_ (fun y hy => ?_), ?_, by simp (disch := first | decide | assumption | omega) only [rM, rW, rL, upd_same, upd_tag, upd_num, memC_ne]⟩
  ·by_cases c : u = t
   ·subst c; rw [hXt] at hy
    obtain rfl := Option.some.inj hy
    simp at hp'
   ·exact hown u y b' r' hu c hy hl hp'
  ·rw [upd_ne (by simp; omega), upd_ne (by simp; omega), memC_ne h1]
  ·rw [upd_ne (by simp; omega), upd_ne h1]
  ·exact (((IsM.next (L := L) (W := nl (4 * nb) (wG ns s)) (by rw [hnl, hnl]) (acc_len M.len)).updC (by omega)).updC (by omega)).updD (by omega)
  ·rw [hXt] at hy
   obtain rfl := Option.some.inj hy
   exact ⟨off + 1, 0, Lf, b2, r2, rfl, hnx, fun v hv => w.lt v (List.mem_cons_of_mem _ hv), Nat.zero_le _, (by show 0 ≤ 5; omega), by simp (disch := first | decide | assumption | omega) only [rM, rW, rL, upd_same, upd_tag, upd_num, memC_ne]; exact w.r10, by simp (disch := first | decide | assumption | omega) only [rM, rW, rL, upd_same, upd_tag, upd_num, memC_ne]; exact w.r12, by simp (disch := first | decide | assumption | omega) only [rM, rW, rL, upd_same, upd_tag, upd_num, memC_ne]; rfl, fun _ => by simp (disch := first | decide | assumption | omega) only [rM, rW, rL, upd_same, upd_tag, upd_num, memC_ne]; rfl⟩
  ·exact ⟨fun a b c => ⟨by simp (disch := first | decide | assumption | omega) only [rM, rW, rL, upd_same, upd_tag, upd_num, memC_ne], by simp (disch := first | decide | assumption | omega) only [rM, rW, rL, upd_same, upd_tag, upd_num, memC_ne]⟩, fun u c => ⟨by simp (disch := first | decide | assumption | omega) only [rM, rW, rL, upd_same, upd_tag, upd_num, memC_ne], by simp (disch := first | decide | assumption | omega) only [rM, rW, rL, upd_same, upd_tag, upd_num, memC_ne]⟩, by simp (disch := first | decide | assumption | omega) only [rM, rW, rL, upd_same, upd_tag, upd_num, memC_ne], by simp (disch := first | decide | assumption | omega) only [rM, rW, rL, upd_same, upd_tag, upd_num, memC_ne]⟩
end Go.Proofs.YtbceiadaihphaaaGreat
set_option linter.unusedVariables false
set_option linter.unusedSimpArgs false
namespace Go.Proofs.YtbceiadaihphaaaGreat
open Go.Am
theorem repG_wstep {ns nb : Nat} (hns : 0 < ns ∧ ns ≤ 64) {h : PT ABlk} {n : Nat} {d : Rl → Nat} {C : Rl → Option ABlk} {s : GS} {k t : Nat} (S : St h n d C) (R : RepG ns nb s k d C) (hk : k ≤ 90000) (ht : t < ns) (hw : (s.X t).isSome = true) :
  EvB Tryz.prog OP 59 [pt (d (10, t))] h n fun v h' n' => WOut ns nb s k t d C v h' n' := by
 obtain ⟨x, hX⟩ := Option.isSome_iff_exists.1 hw
 obtain ⟨off, fl, Lf, b, r, w⟩ := R.wa t x ht hX
 obtain ⟨lf, ph, sd⟩ := x
 have hl := w.left
 simp only at hl
 subst hl
 have hp := w.ph
 simp only at hp
 by_cases c0 : ph = 0
 ·subst c0; exact repG_wstep0 hns S R hk ht hX
 by_cases c5 : ph = 5
 ·subst c5; exact repG_wstep5 hns S R hk ht hX
 exact repG_wstep1 hns S R hk ht hX (by omega)
theorem repG_cliC {ns nb : Nat} {d : Rl → Nat} {C : Rl → Option ABlk} {s : GS} {k a b : Nat} {B : Option ABlk} (R : RepG ns nb s k d C) (ha : 30 ≤ a) : RepG ns nb s k d (upd C (a, b) B) := by
 obtain ⟨hnb, ⟨L, M⟩, ⟨X, ck, ⟨e1, e2, e3⟩, sx⟩, sc, sec, ow, wa⟩ := R
 refine ⟨hnb, ⟨L, M.updC (by omega)⟩, ⟨X, ck, ⟨by simp (disch := first | decide | assumption | omega) only [rM, rW, rL, upd_same, upd_tag, upd_num, memC_ne]; exact e1, by simp (disch := first | decide | assumption | omega) only [rM, rW, rL, upd_same, upd_tag, upd_num, memC_ne]; exact e2, by simp (disch := first | decide | assumption | omega) only [rM, rW, rL, upd_same, upd_tag, upd_num, memC_ne]; exact e3⟩, sx⟩, by simp (disch := first | decide | assumption | omega) only [rM, rW, rL, upd_same, upd_tag, upd_num, memC_ne]; exact sc, fun u hu => (sec u hu).of (by simp (disch := first | decide | assumption | omega) only [rM, rW, rL, upd_same, upd_tag, upd_num, memC_ne]) (by simp (disch := first | decide | assumption | omega) only [rM, rW, rL, upd_same, upd_tag, upd_num, memC_ne]) (by simp (disch := first | decide | assumption | omega) only [rM, rW, rL, upd_same, upd_tag, upd_num, memC_ne]) rfl rfl rfl, ow, fun u x hu hX => ?_⟩
 obtain ⟨off, fl, Lf, b0, r, w⟩ := wa u x hu hX
 exact ⟨off, fl, Lf, b0, r, w.of (Nat.le_refl _) (by simp (disch := first | decide | assumption | omega) only [rM, rW, rL, upd_same, upd_tag, upd_num, memC_ne]) (by simp (disch := first | decide | assumption | omega) only [rM, rW, rL, upd_same, upd_tag, upd_num, memC_ne]) (by simp (disch := first | decide | assumption | omega) only [rM, rW, rL, upd_same, upd_tag, upd_num, memC_ne]) (by simp (disch := first | decide | assumption | omega) only [rM, rW, rL, upd_same, upd_tag, upd_num, memC_ne]) rfl rfl rfl rfl rfl⟩
theorem repG_cliD {ns nb : Nat} {d : Rl → Nat} {C : Rl → Option ABlk} {s : GS} {k a b i : Nat} (R : RepG ns nb s k d C) (ha : 30 ≤ a) : RepG ns nb s k (upd d (a, b) i) C := by
 obtain ⟨hnb, ⟨L, M⟩, ⟨X, ck, ⟨e1, e2, e3⟩, sx⟩, sc, sec, ow, wa⟩ := R
 refine ⟨hnb, ⟨L, M.updD (by omega)⟩, ⟨X, ck, ⟨by simp (disch := first | decide | assumption | omega) only [rM, rW, rL, upd_same, upd_tag, upd_num, memC_ne]; exact e1, by simp (disch := first | decide | assumption | omega) only [rM, rW, rL, upd_same, upd_tag, upd_num, memC_ne]; exact e2, e3⟩, sx.same (fun u _ => by simp (disch := first | decide | assumption | omega) only [rM, rW, rL, upd_same, upd_tag, upd_num, memC_ne]) fun u => Iff.rfl⟩, sc, fun u hu => (sec u hu).of rfl rfl rfl (by simp (disch := first | decide | assumption | omega) only [rM, rW, rL, upd_same, upd_tag, upd_num, memC_ne]) (by simp (disch := first | decide | assumption | omega) only [rM, rW, rL, upd_same, upd_tag, upd_num, memC_ne]) (by simp (disch := first | decide | assumption | omega) only [rM, rW, rL, upd_same, upd_tag, upd_num, memC_ne]), ow, fun u x hu hX => ?_⟩
 obtain ⟨off, fl, Lf, b0, r, w⟩ := wa u x hu hX
 exact ⟨off, fl, Lf, b0, r, w.of (Nat.le_refl _) rfl rfl rfl rfl (by simp (disch := first | decide | assumption | omega) only [rM, rW, rL, upd_same, upd_tag, upd_num, memC_ne]) (by simp (disch := first | decide | assumption | omega) only [rM, rW, rL, upd_same, upd_tag, upd_num, memC_ne]) (by simp (disch := first | decide | assumption | omega) only [rM, rW, rL, upd_same, upd_tag, upd_num, memC_ne]) (by simp (disch := first | decide | assumption | omega) only [rM, rW, rL, upd_same, upd_tag, upd_num, memC_ne]) (by simp (disch := first | decide | assumption | omega) only [rM, rW, rL, upd_same, upd_tag, upd_num, memC_ne])⟩
theorem faceG {ns : Nat} (nb : Nat) (hns : 0 < ns ∧ ns ≤ 64) : Face (engG ns nb) ns (RepG ns nb) := ⟨fun S R hk ht hv he hi hw => repG_enter hns S R ht hv he hi, fun S R hk ht he hi => repG_estep hns S R hk ht he, fun S R hk ht hi he => repG_exit hns S R hk ht hi, fun S R hk ht h0 h1 hw => repG_wait hns S R ht h0 h1, fun S R hk ht hw => repG_wstep hns S R hk ht hw, repG_cliC, repG_cliD
 ⟩
def GS.new : GS := ⟨fun _ => .no, fun _ => false, fun _ => none, fun _ => none⟩
theorem GS.new_wG {ns : Nat} : wG ns GS.new = fun _ => 0 := by
 funext j
 have hc : ∀ b sd, GS.new.cnt ns b sd = 0 := fun b sd => by
  unfold GS.cnt
  rw [List.countP_eq_zero]
  intro u _
  simp [GS.new]
 unfold wG
 rw [hc, hc]
 split
 ·rfl
 ·split
  ·rfl
  ·split <;> rfl
theorem repG_new {ns nb : Nat} {d : Rl → Nat} {C : Rl → Option ABlk} (hnb : 0 < nb ∧ nb ≤ 16) (M : IsM d C (nl (4 * nb) fun _ => 0) [] 0) (E : EngG d C 0 nb ns [] 0) (sc : C (20, 0) = none) : RepG ns nb GS.new 0 d C :=
 ⟨hnb, ⟨[], by rw [GS.new_wG]; exact M⟩, ⟨[], 0, E, ⟨fun i j e f h => by simp at h, fun e he => by simp at he, fun t _ h => absurd rfl h⟩⟩, sc, fun _ _ => trivial, fun _ _ _ _ _ h => by simp [GS.new] at h, fun _ _ _ h => by simp [GS.new] at h⟩
end Go.Proofs.YtbceiadaihphaaaGreat
