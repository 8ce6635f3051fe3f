/-
  A part of the proof: contracts of inner functions.
-/
import Derived.Test.YtbceiadaihphaaaGreatRY5
import Derived.Test.YtbceiadaihphaaaGreatAmV3
set_option linter.unusedVariables false
set_option linter.unusedSimpArgs false
namespace Go.Proofs.YtbceiadaihphaaaGreat
open Go.Am
variable {e : Eng} {ops : Ops} {xp ns : Nat} {hasv guard fresh : e.σ → Nat → Nat → Prop}
abbrev Ev := Nat × Nat × Nat × Nat
def Left (l : List Ev) (k t n : Nat) : Prop := ∃ j w, k < j ∧ j < n ∧ l[j]? = some w ∧ w.2.2.1 = 2 ∧ w.2.1 = t
def LastW (l : List Ev) (i t fr : Nat) (y : Ev) : Prop := fr < i ∧ l[fr]? = some y ∧ y.2.1 = t ∧ y.2.2.1 = 3 ∧ ∀ k z, fr < k → k < i → l[k]? = some z → z.2.1 = t → z.2.2.1 ≠ 3
def Ends (l : List Ev) : Prop := ∀ i x, l[i]? = some x → x.2.2.1 = 4 → ∃ fr y, LastW l i x.2.1 fr y ∧ y.2.2.2 = x.2.2.2 ∧ ∀ k z, k < fr → l[k]? = some z → z.2.2.1 = 1 → z.2.2.2 < 64 → x.2.2.2.testBit z.2.2.2 = true → Left l k z.2.1 i
structure EI (ns : Nat) (guard : e.σ → Nat → Nat → Prop) (ops : Ops) (r : RS e) : Prop where
 done : Ends r.ev
 ent : ∀ k z, r.ev[k]? = some z → z.2.2.1 = 1 → Left r.ev k z.2.1 r.ev.length ∨ (z.2.1 < ns ∧ e.inn r.s z.2.1 = true ∧ r.val z.2.1 = z.2.2.2)
 wait : ∀ u, u < ns → e.wt r.s u = true → r.bg u = true → ∃ fr y, LastW r.ev r.ev.length u fr y ∧ y.2.2.2 = r.setOf ops u ∧ ∀ k z, k < fr → r.ev[k]? = some z → z.2.2.1 = 1 → z.2.2.2 < 64 → (r.setOf ops u).testBit z.2.2.2 = true → Left r.ev k z.2.1 r.ev.length ∨ (z.2.1 < ns ∧ e.inn r.s z.2.1 = true ∧ r.val z.2.1 = z.2.2.2 ∧ guard r.s u z.2.1)
theorem get_app {l : List Ev} {i : Nat} {x y : Ev} (h : l[i]? = some x) : (l ++ [y])[i]? = some x := by
 rw [List.getElem?_append_left (List.getElem?_eq_some_iff.1 h).1]; exact h
theorem get_app' {l : List Ev} {i : Nat} {x y : Ev} (h : (l ++ [y])[i]? = some x) : (i < l.length ∧ l[i]? = some x) ∨ (i = l.length ∧ x = y) := by
 by_cases c : i < l.length
 ·rw [List.getElem?_append_left c] at h; exact .inl ⟨c, h⟩
 ·rw [List.getElem?_append_right (by omega)] at h
  have hi : i - l.length = 0 := by
   rcases Nat.eq_zero_or_pos (i - l.length) with q | q
   ·exact q
   ·rw [List.getElem?_eq_none (by simp; omega)] at h; simp at h
  rw [hi] at h
  simp at h
  exact .inr ⟨by omega, h.symm⟩
theorem Left.app {l : List Ev} {k t n : Nat} {y : Ev} (h : Left l k t n) : Left (l ++ [y]) k t n := by
 obtain ⟨j, w, h1, h2, h3, h4⟩ := h
 exact ⟨j, w, h1, h2, get_app h3, h4⟩
theorem Left.le {l : List Ev} {k t n m : Nat} (h : Left l k t n) (hm : n ≤ m) : Left l k t m := by
 obtain ⟨j, w, h1, h2, h3, h4⟩ := h
 exact ⟨j, w, h1, by omega, h3, h4⟩
theorem Left.app1 {l : List Ev} {k t : Nat} {y : Ev} (h : Left l k t l.length) : Left (l ++ [y]) k t (l ++ [y]).length := h.app.le (by rw [List.length_append]; omega)
theorem LastW.app {l : List Ev} {i t fr : Nat} {y x : Ev} (h : LastW l i t fr y) (hi : i ≤ l.length) : LastW (l ++ [x]) i t fr y := by
 obtain ⟨h1, h2, h3, h4, h5⟩ := h
 refine ⟨h1, get_app h2, h3, h4, fun k z a b c => ?_⟩
 rcases get_app' c with ⟨_, c⟩ | ⟨c, _⟩
 ·exact h5 k z a b c
 ·omega
theorem LastW.app1 {l : List Ev} {t fr : Nat} {y x : Ev} (h : LastW l l.length t fr y) (hx : x.2.1 = t → x.2.2.1 ≠ 3) : LastW (l ++ [x]) (l ++ [x]).length t fr y := by
 obtain ⟨h1, h2, h3, h4, h5⟩ := h
 refine ⟨by rw [List.length_append]; omega, get_app h2, h3, h4, fun k z a b c => ?_⟩
 rcases get_app' c with ⟨c1, c⟩ | ⟨_, rfl⟩
 ·exact h5 k z a c1 c
 ·exact hx
theorem Ends.app {l : List Ev} {x : Ev} (h : Ends l) (hx : x.2.2.1 = 4 → ∃ fr y, LastW l l.length x.2.1 fr y ∧ y.2.2.2 = x.2.2.2 ∧ ∀ k z, k < fr → l[k]? = some z → z.2.2.1 = 1 → z.2.2.2 < 64 → x.2.2.2.testBit z.2.2.2 = true → Left l k z.2.1 l.length) : Ends (l ++ [x]) := by
 intro i y hi h4
 rcases get_app' hi with ⟨c, hi⟩ | ⟨rfl, rfl⟩
 ·obtain ⟨fr, q, a, b, d⟩ := h i y hi h4
  refine ⟨fr, q, a.app (by omega), b, fun k z hk hz h1 h2 h3 => ?_⟩
  rcases get_app' hz with ⟨_, hz⟩ | ⟨rfl, _⟩
  ·exact (d k z hk hz h1 h2 h3).app
  ·have := a.1; omega
 ·obtain ⟨fr, q, a, b, d⟩ := hx h4
  refine ⟨fr, q, a.app (Nat.le_refl _), b, fun k z hk hz h1 h2 h3 => ?_⟩
  rcases get_app' hz with ⟨_, hz⟩ | ⟨rfl, _⟩
  ·exact (d k z hk hz h1 h2 h3).app
  ·have := a.1; omega
theorem EI.up {r : RS e} (h : EI ns guard ops r) : EI ns guard ops r.up := ⟨h.done, h.ent, h.wait⟩
theorem EI.beg {hv2 : e.σ → Nat → Nat → Prop} {ng : Nat} (G : e.Grace ng hv2 guard) {r : RS e} {t : Nat} (h : EI ns guard ops r) (h1 : e.ent r.s t = false) (h2 : e.wt r.s t = false) : EI ns guard ops (RS.beg ops xp r t) := by
 unfold RS.beg
 split
 ·exact ⟨h.done, h.ent, h.wait⟩
 ·rename_i kd v ho
  split
  ·rename_i q
   obtain ⟨f1, f2, f3⟩ := G.fits.enter r.s t v q.2.2
   refine ⟨h.done, fun k z hk hz => ?_, fun u hu hw hb => ?_⟩
   ·rcases h.ent k z hk hz with c | ⟨c1, c2, c3⟩
    ·exact .inl c
    ·have ne : z.2.1 ≠ t := fun q2 => by rw [q2, q.2.2] at c2; simp at c2
     exact .inr ⟨c1, (f2 _).trans c2, (fs_ne ne).trans c3⟩
   ·have hw' : e.wt (e.enter r.s t v) u = true := hw
    rw [f3] at hw'
    obtain ⟨fr, y, a, b, c⟩ := h.wait u hu hw' hb
    refine ⟨fr, y, a, b, fun k z hk hz q1 q2 q3 => ?_⟩
    rcases c k z hk hz q1 q2 q3 with c | ⟨c1, c2, c3, c4⟩
    ·exact .inl c
    ·have ne : z.2.1 ≠ t := fun q2 => by rw [q2, q.2.2] at c2; simp at c2
     exact .inr ⟨c1, (f2 _).trans c2, (fs_ne ne).trans c3, G.gEnter _ _ _ _ _ hw' c4 c2 ne⟩
  ·split
   ·exact ⟨h.done, h.ent, h.wait⟩
   ·split
    ·rename_i q
     obtain ⟨f1, f2, f3⟩ := G.fits.wait r.s t v
     refine ⟨h.done, fun k z hk hz => ?_, fun u hu hw hb => ?_⟩
     ·rcases h.ent k z hk hz with c | ⟨c1, c2, c3⟩
      ·exact .inl c
      ·exact .inr ⟨c1, (f2 _).trans c2, c3⟩
     ·have ne : u ≠ t := fun q => by
       have hb' : fs r.bg t false u = true := hb
       rw [q, fs_same] at hb'; simp at hb'
      have hw' : e.wt (e.wait r.s t v) u = true := hw
      rw [f3, if_neg ne] at hw'
      have hb' : fs r.bg t false u = true := hb
      rw [fs_ne ne] at hb'
      obtain ⟨fr, y, a, b, c⟩ := h.wait u hu hw' hb'
      refine ⟨fr, y, a, b, fun k z hk hz q1 q2 q3 => ?_⟩
      rcases c k z hk hz q1 q2 q3 with c | ⟨c1, c2, c3, c4⟩
      ·exact .inl c
      ·exact .inr ⟨c1, (f2 _).trans c2, c3, G.gWait _ _ _ _ _ hw' c4 c2 ne⟩
    ·exact ⟨h.done, h.ent, h.wait⟩
theorem EI.idx {r : RS e} {t x : Nat} (h : EI ns guard ops r) (h2 : e.wt r.s t = false) : EI ns guard ops ({ r with idx := fs r.idx t x } : RS e) := by
 refine ⟨h.done, h.ent, fun u hu hw hb => ?_⟩
 have ne : u ≠ t := fun q => by
  have hw' : e.wt r.s u = true := hw
  rw [q, h2] at hw'; simp at hw'
 have hs : RS.setOf ops ({ r with idx := fs r.idx t x } : RS e) u = r.setOf ops u := by
  unfold RS.setOf
  simp only [fs_ne ne]
 rw [hs]
 exact h.wait u hu hw hb
theorem EI.mid (G : e.Grace ns hasv guard) (Fe : e.Fresh ns hasv guard fresh) {r : RS e} {t : Nat} (ok : ∀ u, u < ns → ∀ o ∈ ops u, o.2 < 2 ^ 64) (h : EI ns guard ops r) (I : RInv ops xp hasv fresh ns r) (ht : t < ns) (hx : xp ≠ 0 ∧ xp ≠ 1) (act : r.active t) : EI ns guard ops (r.mid ops t) := by
 unfold RS.mid
 cases I.at_ t ht with
 | over a0 a1 a2 a3 => rcases act with q | q | q <;> simp_all
 | ent v a0 a1 a2 a3 a4 a5 =>
  rw [if_pos a2]
  have hn := ((I.one t).1 a2).1
  obtain ⟨f1, f2, f3⟩ := G.fits.estep r.s t a2 hn
  have hinn : ∀ u, e.inn r.s u = true → u ≠ t ∧ e.inn (e.estep r.s t) u = true := fun u hu => by
   have ne : u ≠ t := fun q => by rw [q, hn] at hu; simp at hu
   exact ⟨ne, by rw [f2, if_neg ne]; exact hu⟩
  cases hd : e.ent (e.estep r.s t) t with
  | true =>
   refine ⟨by simpa using h.done, fun k z hk hz => ?_, fun u hu hw hb => ?_⟩
   ·simp only [if_true] at hk ⊢
    rcases h.ent k z hk hz with c | ⟨c1, c2, c3⟩
    ·exact .inl c
    ·exact .inr ⟨c1, (hinn _ c2).2, c3⟩
   ·have hw' : e.wt (e.estep r.s t) u = true := hw
    rw [f3] at hw'
    obtain ⟨fr, y, a, b, c⟩ := h.wait u hu hw' hb
    simp only [if_true]
    refine ⟨fr, y, a, b, fun k z hk hz q1 q2 q3 => ?_⟩
    rcases c k z hk hz q1 q2 q3 with c | ⟨c1, c2, c3, c4⟩
    ·exact .inl c
    ·exact .inr ⟨c1, (hinn _ c2).2, c3, G.gStep _ _ _ _ hw' c4 c2 (hinn _ c2).1⟩
  | false =>
   have hin2 : e.inn (e.estep r.s t) t = true := by rw [f2, if_pos rfl, hd]; rfl
   refine ⟨?_, fun k z hk hz => ?_, fun u hu hw hb => ?_⟩
   ·simp only [Bool.false_eq_true, if_false]
    exact h.done.app fun c => by simp at c
   ·simp only [Bool.false_eq_true, if_false] at hk ⊢
    rcases get_app' hk with ⟨_, hk⟩ | ⟨_, rfl⟩
    ·rcases h.ent k z hk hz with c | ⟨c1, c2, c3⟩
     ·exact .inl c.app1
     ·exact .inr ⟨c1, (hinn _ c2).2, c3⟩
    ·exact .inr ⟨ht, hin2, rfl⟩
   ·have hw' : e.wt (e.estep r.s t) u = true := hw
    rw [f3] at hw'
    obtain ⟨fr, y, a, b, c⟩ := h.wait u hu hw' hb
    simp only [Bool.false_eq_true, if_false]
    refine ⟨fr, y, a.app1 (by simp), b, fun k z hk hz q1 q2 q3 => ?_⟩
    have hk2 : k < r.ev.length := by have := a.1; omega
    rcases get_app' hz with ⟨_, hz⟩ | ⟨q, _⟩
    ·rcases c k z hk hz q1 q2 q3 with c | ⟨c1, c2, c3, c4⟩
     ·exact .inl c.app1
     ·exact .inr ⟨c1, (hinn _ c2).2, c3, G.gStep _ _ _ _ hw' c4 c2 (hinn _ c2).1⟩
    ·omega
 | exit a0 a1 a2 a3 a4 =>
  rw [if_neg (by rw [a1]; simp), if_neg (by rw [a2]; simp), if_neg (by rw [a3]; exact hx.2)]
  obtain ⟨f1, f2, f3⟩ := G.fits.exit r.s t a4
  have hL : ∀ k, k < r.ev.length → Left (r.ev ++ [(r.n, t, 2, r.val t)]) k t (r.ev ++ [(r.n, t, 2, r.val t)]).length := fun k hk => ⟨r.ev.length, (r.n, t, 2, r.val t), hk, by simp, by simp, rfl, rfl⟩
  have hinn : ∀ u, u ≠ t → e.inn r.s u = true → e.inn (e.exit r.s t) u = true := fun u ne hu => by rw [f2, if_neg ne]; exact hu
  refine ⟨h.done.app fun c => by simp at c, fun k z hk hz => ?_, fun u hu hw hb => ?_⟩
  ·rcases get_app' hk with ⟨hl, hk⟩ | ⟨_, rfl⟩
   ·by_cases ne : z.2.1 = t
    ·left; rw [ne]; exact hL k hl
    ·rcases h.ent k z hk hz with c | ⟨c1, c2, c3⟩
     ·exact .inl c.app1
     ·exact .inr ⟨c1, hinn _ ne c2, c3⟩
   ·simp at hz
  ·have hw' : e.wt (e.exit r.s t) u = true := hw
   rw [f3] at hw'
   obtain ⟨fr, y, a, b, c⟩ := h.wait u hu hw' hb
   refine ⟨fr, y, a.app1 (by simp), b, fun k z hk hz q1 q2 q3 => ?_⟩
   have hk2 : k < r.ev.length := by have := a.1; omega
   rcases get_app' hz with ⟨_, hz⟩ | ⟨q, _⟩
   ·by_cases ne : z.2.1 = t
    ·left; rw [ne]; exact hL k hk2
    ·rcases c k z hk hz q1 q2 q3 with c | ⟨c1, c2, c3, c4⟩
     ·exact .inl c.app1
     ·exact .inr ⟨c1, hinn _ ne c2, c3, G.gExit _ _ _ _ hw' c4 c2 ne⟩
   ·omega
 | refuse o a0 a1 a2 a3 =>
  rw [if_neg (by rw [a1]; simp), if_neg (by rw [a2]; simp), if_pos a3]
  exact h
 | wait v a0 a1 a2 a3 a4 =>
  rw [if_neg (by rw [a2]; simp), if_pos a3]
  obtain ⟨f1, f2, f3⟩ := G.fits.wstep r.s t
  have hs : r.setOf ops t = v := by unfold RS.setOf; rw [a0]
  have hv : v < 2 ^ 64 := ok t ht _ (List.mem_of_getElem? a0)
  have hset : ∀ (bg : Nat → Bool) (ev : List Ev), RS.setOf ops ({ r with s := e.wstep r.s t, bg := bg, ev := ev } : RS e) = r.setOf ops := fun _ _ => rfl
  -- the events with the wait's beginning
  obtain ⟨l, hl⟩ : ∃ l, (if r.bg t = true then r.ev else r.ev ++ [(r.n, t, 3, r.setOf ops t)]) = l := ⟨_, rfl⟩
  have d1 : Ends l := by
   rw [← hl]; split
   ·exact h.done
   ·exact h.done.app fun c => by simp at c
  have e1 : ∀ k z, l[k]? = some z → z.2.2.1 = 1 → Left l k z.2.1 l.length ∨ (z.2.1 < ns ∧ e.inn r.s z.2.1 = true ∧ r.val z.2.1 = z.2.2.2) := by
   rw [← hl]; split
   ·exact h.ent
   ·intro k z hk hz
    rcases get_app' hk with ⟨_, hk⟩ | ⟨_, rfl⟩
    ·exact (h.ent k z hk hz).imp Left.app1 id
    ·simp at hz
  have w1 : ∀ u, u ≠ t → u < ns → e.wt r.s u = true → r.bg u = true → ∃ fr y, LastW l l.length u fr y ∧ y.2.2.2 = r.setOf ops u ∧ ∀ k z, k < fr → l[k]? = some z → z.2.2.1 = 1 → z.2.2.2 < 64 → (r.setOf ops u).testBit z.2.2.2 = true → Left l k z.2.1 l.length ∨ (z.2.1 < ns ∧ e.inn r.s z.2.1 = true ∧ r.val z.2.1 = z.2.2.2 ∧ guard r.s u z.2.1) := by
   rw [← hl]; split
   ·exact fun u _ => h.wait u
   ·intro u ne hu hw hb
    obtain ⟨fr, y, a, b, c⟩ := h.wait u hu hw hb
    refine ⟨fr, y, a.app1 (fun q => absurd q.symm ne), b, fun k z hk hz q1 q2 q3 => ?_⟩
    have hk2 : k < r.ev.length := by have := a.1; omega
    rcases get_app' hz with ⟨_, hz⟩ | ⟨q, _⟩
    ·exact (c k z hk hz q1 q2 q3).imp Left.app1 id
    ·omega
  have t1 : ∃ fr y, LastW l l.length t fr y ∧ y.2.2.2 = v ∧ ∀ k z, k < fr → l[k]? = some z → z.2.2.1 = 1 → z.2.2.2 < 64 → v.testBit z.2.2.2 = true → Left l k z.2.1 l.length ∨ (z.2.1 < ns ∧ e.inn r.s z.2.1 = true ∧ r.val z.2.1 = z.2.2.2 ∧ guard r.s t z.2.1) := by
   rw [← hl]; split
   ·rename_i hb
    obtain ⟨fr, y, a, b, c⟩ := h.wait t ht a3 hb
    rw [hs] at b c
    exact ⟨fr, y, a, b, c⟩
   ·rename_i hb
    have hb' : r.bg t = false := by simpa using hb
    have fr := I.fr t v ht a3 a0 hb'
    refine ⟨r.ev.length, (r.n, t, 3, r.setOf ops t), ⟨by simp, by simp, rfl, rfl, fun k z q1 q2 q3 => by rw [List.length_append] at q2; simp at q2; omega⟩, hs, fun k z hk hz q1 q2 q3 => ?_⟩
    rcases get_app' hz with ⟨_, hz⟩ | ⟨q, _⟩
    ·rcases h.ent k z hz q1 with c | ⟨c1, c2, c3⟩
     ·exact .inl c.app1
     ·have hva := I.val z.2.1 (.inr c2)
      rw [c3] at hva
      have he : e.ent r.s z.2.1 = false := by
       cases hq : e.ent r.s z.2.1 with
       | false => rfl
       | true => have := ((I.one z.2.1).1 hq).1; rw [c2] at this; simp at this
      exact .inr ⟨c1, c2, c3, Fe.guard _ _ _ _ _ fr c2 he c1 hva.2 q2 hv q3⟩
    ·omega
  rw [hl]
  have look : ∀ z : Ev, e.inn r.s z.2.1 = true → z.2.1 < ns → r.val z.2.1 = z.2.2.2 → guard r.s t z.2.1 → e.wt (e.wstep r.s t) t = true ∧ guard (e.wstep r.s t) t z.2.1 := fun z q1 q2 q3 q4 => by
   have hva := I.val z.2.1 (.inr q1)
   exact G.gLook _ _ _ _ a3 q4 q1 q2 hva.2 hva.1
  clear hl
  cases hd : e.wt (e.wstep r.s t) t with
  | true =>
   simp only [if_true, List.append_nil]
   refine ⟨d1, fun k z hk hz => ?_, fun u hu hw hb => ?_⟩
   ·rcases e1 k z hk hz with c | ⟨c1, c2, c3⟩
    ·exact .inl c
    ·exact .inr ⟨c1, (f2 _).trans c2, c3⟩
   ·by_cases ne : u = t
    ·subst ne
     obtain ⟨fr, y, a, b, c⟩ := t1
     refine ⟨fr, y, a, b.trans hs.symm, fun k z hk hz q1 q2 q3 => ?_⟩
     have q3' : v.testBit z.2.2.2 = true := by rw [← hs]; exact q3
     rcases c k z hk hz q1 q2 q3' with c | ⟨c1, c2, c3, c4⟩
     ·exact .inl c
     ·exact .inr ⟨c1, (f2 _).trans c2, c3, (look z c2 c1 c3 c4).2⟩
    ·have hw' : e.wt (e.wstep r.s t) u = true := hw
     rw [f3 u ne] at hw'
     have hb' : fs r.bg t true u = true := hb
     rw [fs_ne ne] at hb'
     obtain ⟨fr, y, a, b, c⟩ := w1 u ne hu hw' hb'
     refine ⟨fr, y, a, b, fun k z hk hz q1 q2 q3 => ?_⟩
     rcases c k z hk hz q1 q2 q3 with c | ⟨c1, c2, c3, c4⟩
     ·exact .inl c
     ·exact .inr ⟨c1, (f2 _).trans c2, c3, G.gWstep _ _ _ _ hw' c4 c2 c1 a3 ne⟩
  | false =>
   simp only [Bool.false_eq_true, if_false]
   refine ⟨d1.app fun _ => ?_, fun k z hk hz => ?_, fun u hu hw hb => ?_⟩
   ·obtain ⟨fr, y, a, b, c⟩ := t1
    refine ⟨fr, y, a, b.trans hs.symm, fun k z hk hz q1 q2 q3 => ?_⟩
    have q3' : v.testBit z.2.2.2 = true := by rw [← hs]; exact q3
    rcases c k z hk hz q1 q2 q3' with c | ⟨c1, c2, c3, c4⟩
    ·exact c
    ·have := (look z c2 c1 c3 c4).1
     rw [hd] at this; simp at this
   ·rcases get_app' hk with ⟨_, hk⟩ | ⟨_, rfl⟩
    ·rcases e1 k z hk hz with c | ⟨c1, c2, c3⟩
     ·exact .inl c.app1
     ·exact .inr ⟨c1, (f2 _).trans c2, c3⟩
    ·simp at hz
   ·have ne : u ≠ t := fun q => by
     have hw' : e.wt (e.wstep r.s t) u = true := hw
     rw [q, hd] at hw'; simp at hw'
    have hw' : e.wt (e.wstep r.s t) u = true := hw
    rw [f3 u ne] at hw'
    have hb' : fs r.bg t true u = true := hb
    rw [fs_ne ne] at hb'
    obtain ⟨fr, y, a, b, c⟩ := w1 u ne hu hw' hb'
    refine ⟨fr, y, a.app1 (by simp), b, fun k z hk hz q1 q2 q3 => ?_⟩
    have hk2 : k < l.length := by have := a.1; omega
    rcases get_app' hz with ⟨_, hz⟩ | ⟨q, _⟩
    ·rcases c k z hk hz q1 q2 q3 with c | ⟨c1, c2, c3, c4⟩
     ·exact .inl c.app1
     ·exact .inr ⟨c1, (f2 _).trans c2, c3, G.gWstep _ _ _ _ hw' c4 c2 c1 a3 ne⟩
    ·omega
theorem EI.pick (G : e.Grace ns hasv guard) (Fe : e.Fresh ns hasv guard fresh) {r : RS e} {t : Nat} (ok : ∀ u, u < ns → ∀ o ∈ ops u, o.2 < 2 ^ 64) (h : EI ns guard ops r) (I : RInv ops xp hasv fresh ns r) (ht : t < ns) (hx : xp ≠ 0 ∧ xp ≠ 1) : EI ns guard ops (RS.pick ops xp r t) := by
 unfold RS.pick
 split
 ·rename_i act
  have hm := h.mid G Fe ok I ht hx act
  rw [step_mid act]
  split
  ·rename_i hd
   obtain ⟨i1, i2, i3, i4⟩ := mid_idle (ops := ops) G.fits I.one (I.at_ t ht) act hd
   exact (EI.beg G (hm.idx (x := (r.mid ops t).idx t + 1) i2) i1 i2).up
  ·exact hm.up
 ·exact h.up
theorem EI.zero {s0 : e.σ} (idle : ∀ t, e.ent s0 t = false ∧ e.wt s0 t = false ∧ e.inn s0 t = false) : EI ns guard ops (RS.zero s0) := ⟨fun i x h => by simp [RS.zero] at h, fun k z h => by simp [RS.zero] at h, fun u _ hw => by
 rw [show e.wt (RS.zero s0).s u = false from (idle u).2.1] at hw; simp at hw⟩
theorem EI.begs {ng : Nat} (G : e.Grace ng hasv guard) (Fe : e.Fresh ng hasv guard fresh) {s0 : e.σ} (idle : ∀ t, e.ent s0 t = false ∧ e.wt s0 t = false ∧ e.inn s0 t = false) : ∀ i, EI ns guard ops (RS.begs ops xp (RS.zero s0) i)
 | 0 => EI.zero idle
 | i + 1 => by
  obtain ⟨I, q1, q2, q3, q4, q5⟩ := begs_inv G Fe idle (ops := ops) (xp := xp) i
  exact EI.beg G (EI.begs G Fe idle i) (q1 i (Nat.le_refl _)).1 (q1 i (Nat.le_refl _)).2
end Go.Proofs.YtbceiadaihphaaaGreat
set_option linter.unusedVariables false
set_option linter.unusedSimpArgs false
namespace Go.Proofs.YtbceiadaihphaaaGreat
open Go.Am
variable {e : Eng} {rep : e.σ → Nat → (Rl → Nat) → (Rl → Option ABlk) → Prop} {hasv guard fresh : e.σ → Nat → Nat → Prop} {pcE pcW : e.σ → Nat → Int} {kd nb nw xp : Nat} {s0 : e.σ}
abbrev ksR : List Ck := [.int .u8, .int .u64]
theorem IsRows2.bound {ks : List Ck} {h : PT ABlk} {q n : Nat} {s : Value} {As : List (List (List Int))} (H : IsRows2 ks h q s As) (w : WfH h n) (hA : 0 < As.length) : q + As.length < n := by
 rcases H with ⟨-, rfl⟩ | ⟨cap, vs, -, -, -, -, -, e6⟩
 ·simp at hA
 ·obtain ⟨A, hA2⟩ : ∃ A, As[As.length - 1]? = some A := ⟨As[As.length - 1], List.getElem?_eq_getElem (by omega)⟩
  have := w.lt (e6 _ A hA2).2.2.1
  omega
def opsA (A : List (List Int)) : List (Nat × Nat) := A.map fun x => ((x[0]?.getD 0).toNat, (x[1]?.getD 0).toNat)
def opsOf (As : List (List (List Int))) : Ops := fun i => opsA (As[i]?.getD [])
theorem opsA_row : ∀ {A : List (List Int)}, RowsOk ksR A → rowsL ksR A = opL (opsA A) ∧ ∀ o ∈ opsA A, o.1 < 256 ∧ o.2 < 2 ^ 64
 | [], _ => ⟨rfl, fun o ho => by simp [opsA] at ho⟩
 | x :: A, h => by
  obtain ⟨h1, h2⟩ := opsA_row h.tail
  obtain ⟨hl, hw⟩ := h x (by simp)
  match x, hl with
  | [a, b], _ =>
   obtain ⟨wa, wb, -⟩ := hw
   have ⟨a0, a1⟩ := u8_of_wf wa
   have ⟨b0, b1⟩ := u64_of_wf wb
   have e1 : rowsL ksR ([a, b] :: A) = [.int .u8 a, .int .u64 b] ++ rowsL ksR A := rfl
   have e2 : opL (opsA ([a, b] :: A)) = [U8 a.toNat, U6 b.toNat] ++ opL (opsA A) := rfl
   refine ⟨?_, fun o ho => ?_⟩
   ·rw [e1, e2, h1, Int.toNat_of_nonneg a0, Int.toNat_of_nonneg b0]
   ·have ho' : o = (a.toNat, b.toNat) ∨ o ∈ opsA A := List.mem_cons.1 ho
    rcases ho' with rfl | ho'
    ·exact ⟨by show a.toNat < 256; omega, by show b.toNat < _; omega⟩
    ·exact h2 o ho'
theorem opsA_length {A : List (List Int)} : (opsA A).length = A.length := by simp [opsA]
set_option maxRecDepth 100000 in
set_option maxHeartbeats 4000000 in
theorem shortB {h : PT ABlk} {n q : Nat} {ps s : Value} {As : List (List (List Int))} {x : Option Addr} {pk cap : Nat} (hP : IsRows2 ksR h q ps As) (hs : s = .slice x pk cap) :
  EvB Tryz.prog OP 7 [ps, s] h n fun v h' n' => ∃ b, v = .bool b ∧ h' = h ∧ n' = n ∧ (b = true → As.length ≤ 8 ∧ pk ≤ 500 ∧ ∀ (i : Nat) (A : List (List Int)), As[i]? = some A → A.length ≤ 30) := by
 subst hs
 rcases hP with ⟨rfl, rfl⟩ | ⟨cap2, vs, rfl, e2, e3, e4, e5, e6⟩
 ·by_cases c : 500 < pk
  ·have c' : (500 : Int) < pk := by omega
   refine EvB_run (N := 26) Tryz.func7 rfl rfl fun z hP hO hro hN hQ => ?_
   repeat' first | simp (maxSteps := 2000000) (disch := first | omega | assumption) only [go_sem, *] | (apply xs <;> intro _) <;> try omega
   exact ⟨_, rfl, fun c => by simp at c⟩
  ·have c' : ¬ (500 : Int) < pk := by omega
   refine EvB_run (N := 26) Tryz.func7 rfl rfl fun z hP hO hro hN hQ => ?_
   repeat' first | simp (maxSteps := 2000000) (disch := first | omega | assumption) only [go_sem, *] | (apply xs <;> intro _) <;> try omega
   rw [EvK_loop]
   repeat' first | simp (maxSteps := 2000000) (disch := first | omega | assumption) only [go_sem, *] | (apply xs <;> intro _) <;> try omega
   exact ⟨_, rfl, fun _ => ⟨by omega, fun i A h => h.elim⟩⟩
 ·by_cases c0 : 8 < As.length
  ·have c' : (8 : Int) < As.length := by omega
   refine EvB_run (N := 26) Tryz.func7 rfl rfl fun z hP hO hro hN hQ => ?_
   repeat' first | simp (maxSteps := 2000000) (disch := first | omega | assumption) only [go_sem, *] | (apply xs <;> intro _) <;> try omega
   exact ⟨_, rfl, fun c => by simp at c⟩
  have c0' : ¬ (8 : Int) < As.length := by omega
  by_cases c : 500 < pk
  ·have c' : (500 : Int) < pk := by omega
   refine EvB_run (N := 26) Tryz.func7 rfl rfl fun z hP hO hro hN hQ => ?_
   repeat' first | simp (maxSteps := 2000000) (disch := first | omega | assumption) only [go_sem, *] | (apply xs <;> intro _) <;> try omega
   exact ⟨_, rfl, fun c => by simp at c⟩
  have c' : ¬ (500 : Int) < pk := by omega
  refine EvB_run (N := 26) Tryz.func7 rfl rfl fun z hP hO hro hN hQ => ?_
  repeat' first | simp (maxSteps := 2000000) (disch := first | omega | assumption) only [go_sem, *] | (apply xs <;> intro _) <;> try omega
  refine ind_loop (fun t m h' n' => ∃ i : Nat, i ≤ As.length ∧ t = As.length - i ∧ m.n = 26 ∧ m.dfs = [] ∧ m.get 0 = .slice (some ⟨q, 0, none⟩) As.length cap2 ∧ m.get 5 = I6 i ∧ h' = h ∧ n' = n ∧ ∀ (j : Nat) (A : List (List Int)), j < i → As[j]? = some A → A.length ≤ 30) As.length ?_ ?_
  ·refine ⟨0, by omega, by omega, ?_⟩
   simp (maxSteps := 2000000) (disch := first | omega | assumption) only [go_sem, *]
   exact fun j A hj => absurd hj (by omega)
  ·rintro t m h' n' ih ⟨i, hi, rfl, m1, m2, m3, m4, rfl, rfl, hsh⟩
   rcases Nat.lt_or_ge i As.length with hlt | hge
   ·have e7 : (i : Int) < As.length := by omega
    have hci : ((i + 1 : Nat) : Int) = (i : Int) + 1 := by omega
    obtain ⟨A, hA⟩ : ∃ A, As[i]? = some A := ⟨As[i], List.getElem?_eq_getElem hlt⟩
    obtain ⟨-, -, -, h4⟩ := e6 i A hA
    obtain ⟨w, cp, hw⟩ : ∃ w cp, vs[i]? = some (.slice w A.length cp) := by
     rcases h4 with ⟨h4, rfl⟩ | ⟨cp, h4, -⟩
     ·exact ⟨_, _, h4⟩
     ·exact ⟨_, _, h4⟩
    clear h4 e6
    by_cases c3 : 30 < A.length
    ·have c3' : (30 : Int) < A.length := by omega
     clear hA hsh ih
     repeat' first | simp (maxSteps := 2000000) (disch := first | omega | assumption) only [go_sem, *] | (apply xs <;> intro _) <;> try omega
     exact ⟨_, rfl, fun c => by simp at c⟩
    ·have c3' : ¬ (30 : Int) < A.length := by omega
     have hsh2 : ∀ (j : Nat) (B : List (List Int)), j < i + 1 → As[j]? = some B → B.length ≤ 30 := fun j B hj hB => by
      by_cases q : j = i
      ·subst q; rw [hA] at hB; obtain rfl := Option.some.inj hB; omega
      ·exact hsh j B (by omega) hB
     clear hA hsh
     repeat' first | simp (maxSteps := 2000000) (disch := first | omega | assumption) only [go_sem, *] | (apply xs <;> intro _) <;> try omega
     refine ih (As.length - (i + 1)) _ _ _ (by omega) ⟨i + 1, by omega, rfl, ?_⟩
     rw [hci]
     clear ih
     simp (maxSteps := 2000000) (disch := first | omega | assumption) only [go_sem, *]
     exact hsh2
   ·have e7 : ¬ (i : Int) < As.length := by omega
    have hall : ∀ (j : Nat) (A : List (List Int)), As[j]? = some A → A.length ≤ 30 := fun j A hA => hsh j A (by have := (List.getElem?_eq_some_iff.1 hA).1; omega) hA
    clear hsh ih e6
    repeat' first | simp (maxSteps := 2000000) (disch := first | omega | assumption) only [go_sem, *] | (apply xs <;> intro _) <;> try omega
    exact ⟨_, rfl, fun _ => ⟨by omega, by omega, hall⟩⟩
end Go.Proofs.YtbceiadaihphaaaGreat
set_option linter.unusedVariables false
set_option linter.unusedSimpArgs false
namespace Go.Proofs.YtbceiadaihphaaaGreat
open Go.Am
variable {e : Eng} {rep : e.σ → Nat → (Rl → Nat) → (Rl → Option ABlk) → Prop} {hasv guard fresh : e.σ → Nat → Nat → Prop} {pcE pcW : e.σ → Nat → Int} {kd nb nw xp : Nat} {s0 : e.σ}
structure Pa (d : Rl → Nat) (C : Rl → Option ABlk) (ps : Value) (As : List (List (List Int))) : Prop where
 out : ∃ cap vs, ps = .slice (some ⟨d (64, 0), 0, none⟩) As.length cap ∧ C (64, 0) = rowr vs true ∧ vs.length = As.length ∧
  ∀ (i : Nat) (A : List (List Int)), As[i]? = some A → RowsOk ksR A ∧ C (65, i) = rowr (rowsL ksR A) true ∧ ((vs[i]? = some (.slice none 0 0) ∧ A = []) ∨ ∃ cap', vs[i]? = some (.slice (some ⟨d (65, i), 0, none⟩) A.length cap'))
def cpV (d : Rl → Nat) (ops : Ops) (j : Nat) : Value := if ops j = [] then .slice none 0 0 else .slice (some ⟨d (61, j), 0, none⟩) (ops j).length (capInf + 2)
def cpL (d : Rl → Nat) (ops : Ops) (i : Nat) : List Value := (List.range i).map (cpV d ops)
def cpS (d : Rl → Nat) (i : Nat) : Value := if i = 0 then .slice none 0 0 else .slice (some ⟨d (60, 0), 0, none⟩) i (capInf + 1)
theorem cpL_next {d d2 : Rl → Nat} {ops : Ops} {i : Nat} {L : List Value} {v : Value} (hL : L = cpL d ops i) (hd : ∀ j, j < i → d2 (61, j) = d (61, j)) (hv : v = cpV d2 ops i) : L ++ [v] = cpL d2 ops (i + 1) := by
 rw [hL, hv]
 unfold cpL
 rw [List.range_succ, List.map_append]
 congr 1
 refine List.map_congr_left fun j hj => ?_
 unfold cpV
 rw [hd j (by simpa using hj)]
structure Cq (d0 : Rl → Nat) (C0 : Rl → Option ABlk) (ops : Ops) (i : Nat) (d : Rl → Nat) (C : Rl → Option ABlk) : Prop where
 out : i ≠ 0 → C (60, 0) = row (cpL d ops i)
 ops : ∀ t, t < i → ops t ≠ [] → C (61, t) = row (opL (ops t))
 oth : ∀ a b, a ≠ 60 → a ≠ 61 → d (a, b) = d0 (a, b) ∧ C (a, b) = C0 (a, b)
theorem Cq.next {d0 d d2 : Rl → Nat} {C0 C C2 : Rl → Option ABlk} {ops : Ops} {i : Nat} (P : Cq d0 C0 ops i d C) (L : List Value) (v : Value) (hL : L = cpL d ops i) (hv : v = cpV d2 ops i) (ho : ops i ≠ [] → C2 (61, i) = row (opL (ops i))) (hx : ∀ s, s ≠ (60, 0) → s ≠ (61, i) → d2 s = d s ∧ C2 s = C s) (ht : C2 (60, 0) = row (L ++ [v])) : Cq d0 C0 ops (i + 1) d2 C2 := by
 have h61 : ∀ t, t < i → d2 (61, t) = d (61, t) ∧ C2 (61, t) = C (61, t) := fun t h => hx _ (by simp) (by simp; omega)
 refine ⟨fun _ => ?_, fun t h1 h2 => ?_, fun a b c1 c2 => ?_⟩
 ·rw [ht, cpL_next hL (fun t h => (h61 t h).1) hv]
 ·by_cases c : t = i
  ·subst c; exact ho h2
  ·exact (h61 t (by omega)).2.trans (P.ops t (by omega) h2)
 ·obtain ⟨q1, q2⟩ := hx (a, b) (by simp [c1]) (by simp [c2])
  obtain ⟨q3, q4⟩ := P.oth a b c1 c2
  exact ⟨q1.trans q3, q2.trans q4⟩
set_option maxRecDepth 100000 in
set_option maxHeartbeats 8000000 in
theorem copyB {h : PT ABlk} {n : Nat} {d : Rl → Nat} {C : Rl → Option ABlk} {ps : Value} {As : List (List (List Int))} (S : St h n d C) (P : Pa d C ps As) (hA : 0 < As.length ∧ As.length ≤ 8) (hA2 : ∀ (i : Nat) (A : List (List Int)), As[i]? = some A → A.length ≤ 30) :
  EvB Tryz.prog OP 23 [ps] h n fun v h' n' => ∃ d' C', St h' n' d' C' ∧ Progs d' C' v (opsOf As) As.length ∧ ∀ a b, a ≠ 60 → a ≠ 61 → d' (a, b) = d (a, b) ∧ C' (a, b) = C (a, b) := by
 obtain ⟨cap, vs, rfl, h64, hvl, hvs⟩ := P.out
 obtain ⟨hA0, hA1⟩ := hA
 refine EvB_run (N := 20) Tryz.func23 rfl rfl fun z hP hO hro hN hQ => ?_
 repeat' first | simp (maxSteps := 2000000) (disch := first | omega | assumption) only [go_sem, *] | (apply xs <;> intro _) <;> try omega | refine fun (_ _ : List Nat) => ?_
 refine ind_loop (fun t m h' n' => ∃ i : Nat, i ≤ As.length ∧ t = As.length - i ∧ m.n = 20 ∧ m.dfs = [] ∧ m.get 0 = .slice (some ⟨d (64, 0), 0, none⟩) As.length cap ∧ m.get 4 = I6 i ∧ ∃ d' C', m.get 3 = cpS d' i ∧ St h' n' d' C' ∧ Cq d C (opsOf As) i d' C') As.length ?_ ?_
 ·refine ⟨0, by omega, by omega, ?_⟩
  simp (maxSteps := 2000000) (disch := first | omega | assumption) only [go_sem, *]
  exact ⟨d, C, rfl, S, fun c => absurd rfl c, fun t ht => absurd ht (by omega), fun a b _ _ => ⟨rfl, rfl⟩⟩
 ·rintro t m h' n' ih ⟨i, hi, rfl, m1, m2, m3, m4, d', C', m5, S3, P3⟩
  rcases Nat.lt_or_ge i As.length with hlt | hge
  ·have e7 : (i : Int) < As.length := by omega
   have hci : ((i + 1 : Nat) : Int) = (i : Int) + 1 := by omega
   obtain ⟨A, hA⟩ : ∃ A, As[i]? = some A := ⟨As[i], List.getElem?_eq_getElem hlt⟩
   obtain ⟨okA, h65, hv⟩ := hvs i A hA
   have hle := hA2 i A hA
   have hops : opsOf As i = opsA A := by unfold opsOf; rw [hA]; rfl
   have hopl := opsA_length (A := A)
   have hrow := (opsA_row okA).1
   have h64' := (P3.oth 64 0 (by omega) (by omega)).2.trans h64
   have h65' := (P3.oth 65 i (by omega) (by omega)).2.trans h65
   have g64 := S3.at h64'
   have g65 := S3.at h65'
   have n64 := S3.lt h64'
   have n65 := S3.lt h65'
   rw [(P3.oth 64 0 (by omega) (by omega)).1] at g64 n64
   rw [(P3.oth 65 i (by omega) (by omega)).1] at g65 n65
   rw [hrow] at g65
   have hol := opL_length (opsA A)
   obtain ⟨O, hO⟩ : ∃ O, O = opsA A := ⟨_, rfl⟩
   rw [← hO] at hopl hol g65 hops
   clear hvs hrow okA hA h65 hO
   rcases hv with ⟨hv, rfl⟩ | ⟨cp, hv⟩
   ·have h0 : O = [] := List.eq_nil_of_length_eq_zero (by rw [hopl]; rfl)
    by_cases c0 : i = 0
    ·subst c0
     have e0 : cpS d' 0 = .slice none 0 0 := rfl
     rw [e0] at m5
     repeat' first | simp (maxSteps := 2000000) (disch := first | omega | assumption) only [go_sem, *] | (apply xs <;> intro _) <;> try omega | refine fun (_ _ : List Nat) => ?_ | (first | refine inQ Tryz.func51 rfl ?_ ?_ ?_ ?_ | fail) <;> intros
     refine ih (As.length - (0 + 1)) _ _ _ (by omega) ⟨0 + 1, by omega, rfl, ?_⟩
     clear ih
     simp (maxSteps := 2000000) (disch := first | omega | assumption) only [go_sem, *]
     refine ⟨_, _, ?_, ((S3.junk (Nat.le_refl _) (Nat.lt_succ_self _)).new (60, 0) _ (Nat.le_refl _) (Nat.lt_succ_self _)), ?_⟩
     ·unfold cpS; rw [if_neg (by omega)]; (simp (disch := first | decide | assumption | omega) only [rM, rW, rL, upd_same, upd_tag, upd_num, memC_ne]) <;> rfl
     refine Cq.next P3 ([]) (.slice none 0 0) rfl (by unfold cpV; rw [hops, if_pos h0]) (fun c => absurd (hops.trans h0) c) (fun s h1 h2 => ⟨by simp only [upd_ne h1, upd_ne h2], by simp only [upd_ne h1, upd_ne h2]⟩) (by (simp (disch := first | decide | assumption | omega) only [rM, rW, rL, upd_same, upd_tag, upd_num, memC_ne]) <;> rfl)
    ·have e0 : cpS d' i = .slice (some ⟨d' (60, 0), 0, none⟩) i (capInf + 1) := if_neg c0
     rw [e0] at m5
     have g60 := S3.at (P3.out c0)
     have n60 := S3.lt (P3.out c0)
     have w1 := S3.df h64' (P3.out c0) (by simp)
     have w2 := S3.df h65' (P3.out c0) (by simp)
     rw [(P3.oth 64 0 (by omega) (by omega)).1] at w1
     rw [(P3.oth 65 i (by omega) (by omega)).1] at w2
     have hrl : (cpL d' (opsOf As) i).length = i := by simp [cpL]
     have htk : List.take i (cpL d' (opsOf As) i) = cpL d' (opsOf As) i := List.take_of_length_le (by omega)
     have i0 : 0 < i := by omega
     generalize hR : cpL d' (opsOf As) i = R at *
     repeat' first | simp (maxSteps := 2000000) (disch := first | omega | assumption) only [go_sem, *] | (apply xs <;> intro _) <;> try omega | refine fun (_ _ : List Nat) => ?_ | (first | refine inQ Tryz.func51 rfl ?_ ?_ ?_ ?_ | fail) <;> intros
     refine ih (As.length - (i + 1)) _ _ _ (by omega) ⟨i + 1, by omega, rfl, ?_⟩
     rw [hci]
     clear ih
     simp (maxSteps := 2000000) (disch := first | omega | assumption) only [go_sem, *]
     refine ⟨_, _, ?_, (((S3.junk (Nat.le_refl _) (Nat.lt_succ_self _)).kill (60, 0) (P3.out c0) rfl).new (60, 0) _ (Nat.le_refl _) (Nat.lt_succ_self _)), ?_⟩
     ·unfold cpS; rw [if_neg (by omega)]; (simp (disch := first | decide | assumption | omega) only [rM, rW, rL, upd_same, upd_tag, upd_num, memC_ne]) <;> rfl
     refine Cq.next P3 (R) (.slice none 0 0) hR.symm (by unfold cpV; rw [hops, if_pos h0]) (fun c => absurd (hops.trans h0) c) (fun s h1 h2 => ⟨by simp only [upd_ne h1, upd_ne h2], by simp only [upd_ne h1, upd_ne h2]⟩) (by (simp (disch := first | decide | assumption | omega) only [rM, rW, rL, upd_same, upd_tag, upd_num, memC_ne]) <;> rfl)
   ·by_cases h0 : O = []
    ·by_cases c0 : i = 0
     ·subst c0
      have e0 : cpS d' 0 = .slice none 0 0 := rfl
      rw [e0] at m5
      have hl0 : A.length = 0 := by rw [← hopl, h0]; rfl
      repeat' first | simp (maxSteps := 2000000) (disch := first | omega | assumption) only [go_sem, *] | (apply xs <;> intro _) <;> try omega | refine fun (_ _ : List Nat) => ?_ | (first | refine inQ Tryz.func51 rfl ?_ ?_ ?_ ?_ | fail) <;> intros
      refine ih (As.length - (0 + 1)) _ _ _ (by omega) ⟨0 + 1, by omega, rfl, ?_⟩
      clear ih
      simp (maxSteps := 2000000) (disch := first | omega | assumption) only [go_sem, *]
      refine ⟨_, _, ?_, ((S3.junk (Nat.le_refl _) (Nat.lt_succ_self _)).new (60, 0) _ (Nat.le_refl _) (Nat.lt_succ_self _)), ?_⟩
      ·unfold cpS; rw [if_neg (by omega)]; (simp (disch := first | decide | assumption | omega) only [rM, rW, rL, upd_same, upd_tag, upd_num, memC_ne]) <;> rfl
      refine Cq.next P3 ([]) (.slice none 0 0) rfl (by unfold cpV; rw [hops, if_pos h0]) (fun c => absurd (hops.trans h0) c) (fun s h1 h2 => ⟨by simp only [upd_ne h1, upd_ne h2], by simp only [upd_ne h1, upd_ne h2]⟩) (by (simp (disch := first | decide | assumption | omega) only [rM, rW, rL, upd_same, upd_tag, upd_num, memC_ne]) <;> rfl)
     ·have e0 : cpS d' i = .slice (some ⟨d' (60, 0), 0, none⟩) i (capInf + 1) := if_neg c0
      rw [e0] at m5
      have g60 := S3.at (P3.out c0)
      have n60 := S3.lt (P3.out c0)
      have w1 := S3.df h64' (P3.out c0) (by simp)
      have w2 := S3.df h65' (P3.out c0) (by simp)
      rw [(P3.oth 64 0 (by omega) (by omega)).1] at w1
      rw [(P3.oth 65 i (by omega) (by omega)).1] at w2
      have hrl : (cpL d' (opsOf As) i).length = i := by simp [cpL]
      have htk : List.take i (cpL d' (opsOf As) i) = cpL d' (opsOf As) i := List.take_of_length_le (by omega)
      have i0 : 0 < i := by omega
      generalize hR : cpL d' (opsOf As) i = R at *
      have hl0 : A.length = 0 := by rw [← hopl, h0]; rfl
      repeat' first | simp (maxSteps := 2000000) (disch := first | omega | assumption) only [go_sem, *] | (apply xs <;> intro _) <;> try omega | refine fun (_ _ : List Nat) => ?_ | (first | refine inQ Tryz.func51 rfl ?_ ?_ ?_ ?_ | fail) <;> intros
      refine ih (As.length - (i + 1)) _ _ _ (by omega) ⟨i + 1, by omega, rfl, ?_⟩
      rw [hci]
      clear ih
      simp (maxSteps := 2000000) (disch := first | omega | assumption) only [go_sem, *]
      refine ⟨_, _, ?_, (((S3.junk (Nat.le_refl _) (Nat.lt_succ_self _)).kill (60, 0) (P3.out c0) rfl).new (60, 0) _ (Nat.le_refl _) (Nat.lt_succ_self _)), ?_⟩
      ·unfold cpS; rw [if_neg (by omega)]; (simp (disch := first | decide | assumption | omega) only [rM, rW, rL, upd_same, upd_tag, upd_num, memC_ne]) <;> rfl
      refine Cq.next P3 (R) (.slice none 0 0) hR.symm (by unfold cpV; rw [hops, if_pos h0]) (fun c => absurd (hops.trans h0) c) (fun s h1 h2 => ⟨by simp only [upd_ne h1, upd_ne h2], by simp only [upd_ne h1, upd_ne h2]⟩) (by (simp (disch := first | decide | assumption | omega) only [rM, rW, rL, upd_same, upd_tag, upd_num, memC_ne]) <;> rfl)
    ·by_cases c0 : i = 0
     ·subst c0
      have e0 : cpS d' 0 = .slice none 0 0 := rfl
      rw [e0] at m5
      have hl0 : 0 < A.length := by
       rw [← hopl]; exact List.length_pos_iff.2 h0
      rw [hopl] at hol
      generalize hq : A.length = q at *
      have htk2 : List.take (q * 2) (opL O) = opL O := List.take_of_length_le (by omega)
      repeat' first | simp (maxSteps := 2000000) (disch := first | omega | assumption) only [go_sem, *] | (apply xs <;> intro _) <;> try omega | refine fun (_ _ : List Nat) => ?_ | (first | refine inQ Tryz.func51 rfl ?_ ?_ ?_ ?_ | fail) <;> intros
      refine ih (As.length - (0 + 1)) _ _ _ (by omega) ⟨0 + 1, by omega, rfl, ?_⟩
      clear ih
      simp (maxSteps := 2000000) (disch := first | omega | assumption) only [go_sem, *]
      refine ⟨_, _, ?_, (((S3.new (61, 0) _ (Nat.le_refl _) (Nat.lt_succ_self _)).junk (Nat.le_refl _) (Nat.lt_succ_self _)).new (60, 0) _ (Nat.le_refl _) (Nat.lt_succ_self _)), ?_⟩
      ·unfold cpS; rw [if_neg (by omega)]; (simp (disch := first | decide | assumption | omega) only [rM, rW, rL, upd_same, upd_tag, upd_num, memC_ne]) <;> rfl
      refine Cq.next P3 ([]) (.slice (some ⟨n', 0, none⟩) q (capInf + 2)) rfl (by unfold cpV; rw [hops, if_neg h0, hopl]; (simp (disch := first | decide | assumption | omega) only [rM, rW, rL, upd_same, upd_tag, upd_num, memC_ne]) <;> rfl) (fun _ => by rw [hops]; (simp (disch := first | decide | assumption | omega) only [rM, rW, rL, upd_same, upd_tag, upd_num, memC_ne]) <;> rfl) (fun s h1 h2 => ⟨by simp only [upd_ne h1, upd_ne h2], by simp only [upd_ne h1, upd_ne h2]⟩) (by (simp (disch := first | decide | assumption | omega) only [rM, rW, rL, upd_same, upd_tag, upd_num, memC_ne]) <;> rfl)
     ·have e0 : cpS d' i = .slice (some ⟨d' (60, 0), 0, none⟩) i (capInf + 1) := if_neg c0
      rw [e0] at m5
      have g60 := S3.at (P3.out c0)
      have n60 := S3.lt (P3.out c0)
      have w1 := S3.df h64' (P3.out c0) (by simp)
      have w2 := S3.df h65' (P3.out c0) (by simp)
      rw [(P3.oth 64 0 (by omega) (by omega)).1] at w1
      rw [(P3.oth 65 i (by omega) (by omega)).1] at w2
      have hrl : (cpL d' (opsOf As) i).length = i := by simp [cpL]
      have htk : List.take i (cpL d' (opsOf As) i) = cpL d' (opsOf As) i := List.take_of_length_le (by omega)
      have i0 : 0 < i := by omega
      generalize hR : cpL d' (opsOf As) i = R at *
      have hl0 : 0 < A.length := by
       rw [← hopl]; exact List.length_pos_iff.2 h0
      rw [hopl] at hol
      generalize hq : A.length = q at *
      have htk2 : List.take (q * 2) (opL O) = opL O := List.take_of_length_le (by omega)
      repeat' first | simp (maxSteps := 2000000) (disch := first | omega | assumption) only [go_sem, *] | (apply xs <;> intro _) <;> try omega | refine fun (_ _ : List Nat) => ?_ | (first | refine inQ Tryz.func51 rfl ?_ ?_ ?_ ?_ | fail) <;> intros
      refine ih (As.length - (i + 1)) _ _ _ (by omega) ⟨i + 1, by omega, rfl, ?_⟩
      rw [hci]
      clear ih
      simp (maxSteps := 2000000) (disch := first | omega | assumption) only [go_sem, *]
      refine ⟨_, _, ?_, ((((S3.new (61, i) _ (Nat.le_refl _) (Nat.lt_succ_self _)).junk (Nat.le_refl _) (Nat.lt_succ_self _)).kill (60, 0) (by simp (disch := first | decide | assumption | omega) only [rM, rW, rL, upd_same, upd_tag, upd_num, memC_ne]; exact P3.out c0) (by simp (disch := first | decide | assumption | omega) only [rM, rW, rL, upd_same, upd_tag, upd_num, memC_ne])).new (60, 0) _ (Nat.le_refl _) (Nat.lt_succ_self _)), ?_⟩
      ·unfold cpS; rw [if_neg (by omega)]; (simp (disch := first | decide | assumption | omega) only [rM, rW, rL, upd_same, upd_tag, upd_num, memC_ne]) <;> rfl
      refine Cq.next P3 (R) (.slice (some ⟨n', 0, none⟩) q (capInf + 2)) hR.symm (by unfold cpV; rw [hops, if_neg h0, hopl]; (simp (disch := first | decide | assumption | omega) only [rM, rW, rL, upd_same, upd_tag, upd_num, memC_ne]) <;> rfl) (fun _ => by rw [hops]; (simp (disch := first | decide | assumption | omega) only [rM, rW, rL, upd_same, upd_tag, upd_num, memC_ne]) <;> rfl) (fun s h1 h2 => ⟨by simp only [upd_ne h1, upd_ne h2], by simp only [upd_ne h1, upd_ne h2]⟩) (by (simp (disch := first | decide | assumption | omega) only [rM, rW, rL, upd_same, upd_tag, upd_num, memC_ne]) <;> rfl)
  ·obtain rfl : i = As.length := by omega
   have e7 : ¬ ((As.length : Nat) : Int) < As.length := by omega
   have e0 : cpS d' As.length = .slice (some ⟨d' (60, 0), 0, none⟩) As.length (capInf + 1) := if_neg (by omega)
   rw [e0] at m5
   have hP : Progs d' C' (.slice (some ⟨d' (60, 0), 0, none⟩) As.length (capInf + 1)) (opsOf As) As.length := ⟨_, _, false, rfl, P3.out (by omega), by simp [cpL], fun j hj => ⟨cpV d' (opsOf As) j, by unfold cpL; rw [List.getElem?_map, List.getElem?_range hj]; rfl, by
    unfold cpV PV
    by_cases c : opsOf As j = []
    ·left; rw [if_pos c]; exact ⟨rfl, c⟩
    ·right
     rw [if_neg c]
     exact ⟨(61, j), _, opL (opsOf As j), false, (by omega : 60 ≤ 61), rfl, P3.ops j hj c, by rw [opL_length]; omega, List.take_of_length_le (by rw [opL_length]; omega)⟩⟩⟩
   have hoth := P3.oth
   clear ih hvs P3
   repeat' first | simp (maxSteps := 2000000) (disch := first | omega | assumption) only [go_sem, *] | (apply xs <;> intro _) <;> try omega | refine fun (_ _ : List Nat) => ?_
   exact ⟨d', C', S3, hP, hoth⟩
end Go.Proofs.YtbceiadaihphaaaGreat
set_option linter.unusedVariables false
set_option linter.unusedSimpArgs false
namespace Go.Proofs.YtbceiadaihphaaaGreat
open Go.Am
variable {e : Eng} {rep : e.σ → Nat → (Rl → Nat) → (Rl → Option ABlk) → Prop} {hasv guard fresh : e.σ → Nat → Nat → Prop} {pcE pcW : e.σ → Nat → Int} {kd nb nw xp : Nat} {s0 : e.σ}
theorem pick_mod {z : Int} {ns : Nat} (h : 0 < ns) : ∃ t : Nat, t < ns ∧ (z.tmod ns + ns).tmod ns = t := by
 have b2 := Int.lt_tmod_of_pos z (show (0 : Int) < ns by omega)
 have b3 := Int.tmod_lt_of_pos (z.tmod ns + ns) (show (0 : Int) < ns by omega)
 have b4 := Int.tmod_nonneg (ns : Int) (show 0 ≤ z.tmod ns + ns by omega)
 exact ⟨((z.tmod ns + ns).tmod ns).toNat, by omega, by omega⟩
set_option maxRecDepth 100000 in
set_option maxHeartbeats 4000000 in
theorem runB {ns : Nat} (K : Kit e ns rep hasv guard fresh pcE pcW kd nb nw s0 xp) {ops : Ops} (ok : OpsOk ops ns) (Q : RS e → Prop) (hstep : ∀ r t, t < ns → Q r → RInv ops xp hasv fresh ns r ∧ Q (RS.pick ops xp r t)) {d0 : Rl → Nat} {C0 : Rl → Option ABlk} {p j0 k n : Nat} {r : RS e} {d : Rl → Nat} {C : Rl → Option ABlk} {h : PT ABlk} {s : Value} {A : List (List Int)} (g : Rg rep ops ns d0 C0 p j0 r k d C h n) (q0 : Q r) (hA : IsPicks d0 C0 s A) (hl : A.length ≤ 500) (hj : j0 ≤ 1000) (c8 : C0 (98, 0) = none) (c9 : C0 (99, 0) = none) :
  EvB Tryz.prog OP 18 [pt p, s] h n fun v h' n' => (∃ c, v = tup [I6 c, I6 0]) ∧ ∃ r' k' d' C', Rg rep ops ns d0 C0 p (j0 + A.length) r' k' d' C' h' n' ∧ Q r' := by
 obtain ⟨okA, hA2⟩ := hA
 obtain ⟨x0, cap, hs'⟩ : ∃ x0 cap, s = .slice x0 A.length cap := by
  rcases hA2 with ⟨rfl, rfl⟩ | ⟨cap, rfl, _⟩
  ·exact ⟨_, _, rfl⟩
  ·exact ⟨_, _, rfl⟩
 have g40 := g.S.at g.R.mach
 rw [g.at_] at g40
 simp only [mrow] at g40
 have hn := g.n
 have t1 : ¬ (65536 : Int) < A.length := by omega
 have t2 : ¬ (1000000 : Int) < (r.n : Int) + A.length := by omega
 refine EvB_run (N := 46) Tryz.func18 rfl rfl fun z hP hO hro hN hQ => ?_
 repeat' first | simp (maxSteps := 2000000) (disch := first | omega | assumption) only [go_sem, *] | (apply xs <;> intro _) <;> try omega
 have hns := K.hns.1
 refine ind_loop (fun t m h' n' => ∃ i c : Nat, i ≤ A.length ∧ c ≤ i ∧ t = A.length - i ∧ m.n = 46 ∧ m.dfs = [] ∧ m.get 0 = pt p ∧ m.get 6 = I6 c ∧ m.get 28 = .slice x0 A.length cap ∧ m.get 29 = I6 A.length ∧ m.get 30 = I6 i ∧ ∃ r k d' C', Rg rep ops ns d0 C0 p (j0 + i) r k d' C' h' n' ∧ Q r) A.length ?_ ?_
 ·refine ⟨0, 0, by omega, by omega, by omega, ?_⟩
  clear ok
  simp (maxSteps := 2000000) (disch := first | omega | assumption) only [go_sem, *]
  exact ⟨r, k, d, C, g, q0⟩
 ·clear g g40 hn q0 t1 t2
  rintro t m h' n' ih ⟨i, c, hi, hc, rfl, m1, m2, m3, m4, m5, m6, m7, r, k, d', C', g, q⟩
  rcases Nat.lt_or_ge i A.length with hlt | hge
  ·have e7 : (i : Int) < A.length := by omega
   have hci : ((i + 1 : Nat) : Int) = (i : Int) + 1 := by omega
   have hcc : ((c + 1 : Nat) : Int) = (c : Int) + 1 := by omega
   rcases hA2 with ⟨rfl, rfl⟩ | ⟨cap', hs2, hC⟩
   ·simp at hlt
   ·obtain ⟨x, hx⟩ : ∃ x, A[i]? = some x := ⟨A[i], List.getElem?_eq_getElem hlt⟩
    obtain ⟨hxl, hxw⟩ := okA x (List.mem_of_getElem? hx)
    have r0 := rowsL_get okA hx 0 (by decide)
    obtain ⟨z, rfl⟩ : ∃ z, x = [z] := by
     match x, hxl with
     | [z], _ => exact ⟨z, rfl⟩
    change (rowsL ksI A)[i * 1]? = some (I6 z) at r0
    rw [Nat.mul_one] at r0
    obtain ⟨rfl, rfl⟩ : x0 = some ⟨d0 (62, 0), 0, none⟩ ∧ cap = cap' := by
     rw [hs'] at hs2; injection hs2 with e1 _ e2; exact ⟨e1, e2⟩
    have gA := g.S.at ((g.oth 62 0 (by omega)).2.trans hC)
    rw [(g.oth 62 0 (by omega)).1] at gA
    obtain ⟨tt, ht, hz⟩ := pick_mod (z := z) hns
    obtain ⟨I, q2⟩ := hstep r tt ht q
    have en := Rg.pick K ok g I (x := z) ht hz (by omega) c8 c9
    clear hC hx hxw hs2 ok okA hstep hz
    repeat' first | simp (maxSteps := 2000000) (disch := first | omega | assumption) only [go_sem, *] | (apply xs <;> intro _) <;> try omega
    refine cal (en) (by simp only [*]) (by simp only [*]) (by simp only [go_sem, *]) (by simp only [go_sem, *]) ?_
    rintro v h5 n5 ⟨⟨pc, acc, dn, rfl⟩, k', d5, C5, g5⟩
    clear g en gA q I
    repeat' first | simp (maxSteps := 2000000) (disch := first | omega | assumption) only [go_sem, *] | (apply xs <;> intro _) <;> try omega
    ·refine ih (A.length - (i + 1)) _ _ _ (by omega) ⟨i + 1, c + 1, by omega, by omega, rfl, ?_⟩
     rw [hci, hcc]
     clear ih
     have g6 := g5
     simp (maxSteps := 2000000) (disch := first | omega | assumption) only [go_sem, *]
     refine ⟨_, k', d5, C5, ?_, q2⟩
     rw [← Nat.add_assoc]
     exact g5.re (g5.S.junk2 (Nat.le_refl _) (Nat.lt_succ_self _))
    ·refine ih (A.length - (i + 1)) _ _ _ (by omega) ⟨i + 1, c, by omega, by omega, rfl, ?_⟩
     rw [hci]
     clear ih
     simp (maxSteps := 2000000) (disch := first | omega | assumption) only [go_sem, *]
     refine ⟨_, k', d5, C5, ?_, q2⟩
     rw [← Nat.add_assoc]
     exact g5.re (g5.S.junk2 (Nat.le_refl _) (Nat.lt_succ_self _))
  ·have e7 : ¬ (i : Int) < A.length := by omega
   obtain rfl : i = A.length := by omega
   clear ih ok hstep hA2
   repeat' first | simp (maxSteps := 2000000) (disch := first | omega | assumption) only [go_sem, *] | (apply xs <;> intro _) <;> try omega
   exact ⟨⟨_, rfl⟩, r, k, d', C', g, q⟩
set_option maxRecDepth 100000 in
set_option maxHeartbeats 4000000 in
theorem eventsB {ns : Nat} {ops : Ops} {k n : Nat} {f : Nat → Value} {r : RS e} {d : Rl → Nat} {C : Rl → Option ABlk} {h : PT ABlk} (S : St h n d C) (R : RepR rep ops ns f r k d C) (hl : r.ev.length ≤ 100000) :
  EvB Tryz.prog OP 9 [pt (d (40, 0))] h n fun v h' n' => ∃ d' C', (v = if r.ev = [] then .slice none 0 0 else .slice (some ⟨d' (66, 0), 0, none⟩) r.ev.length (capInf + 4)) ∧ St h' n' d' C' ∧ (r.ev ≠ [] → C' (66, 0) = row (evL r.ev)) ∧ ∀ s, s ≠ (66, 0) → d' s = d s ∧ C' s = C s := by
 have g40 := S.at R.mach
 have n40 := S.lt R.mach
 simp only [mrow] at g40
 by_cases c : r.ev = []
 ·have e0 : evS d r.ev = .slice none 0 0 := if_pos c
  rw [e0] at g40
  clear e0
  refine EvB_run (N := 10) Tryz.func9 rfl rfl fun z hP hO hro hN hQ => ?_
  repeat' first | simp (maxSteps := 2000000) (disch := first | omega | assumption) only [go_sem, *] | (apply xs <;> intro _) <;> try omega
  refine ⟨d, C, ?_⟩
  simp [S]
 ·have e0 : evS d r.ev = .slice (some ⟨d (43, 0), 0, none⟩) r.ev.length (capInf + 4) := if_neg c
  rw [e0] at g40
  have g43 := S.at (R.ev c)
  have n43 := S.lt (R.ev c)
  have hlen := evL_length r.ev
  have hpos : 0 < r.ev.length := List.length_pos_iff.2 c
  generalize evL r.ev = E at *
  have htk : List.take (r.ev.length * 4) E = E := List.take_of_length_le (by omega)
  clear e0
  refine EvB_run (N := 10) Tryz.func9 rfl rfl fun z hP hO hro hN hQ => ?_
  repeat' first | simp (maxSteps := 2000000) (disch := first | omega | assumption) only [go_sem, *] | (apply xs <;> intro _) <;> try omega
  exact ⟨_, _, by (simp (disch := first | decide | assumption | omega) only [rM, rW, rL, upd_same, upd_tag, upd_num, memC_ne]) <;> rfl, S.new (66, 0) _ (Nat.le_refl _) (Nat.lt_succ_self _), fun _ => by (simp (disch := first | decide | assumption | omega) only [rM, rW, rL, upd_same, upd_tag, upd_num, memC_ne]) <;> rfl, fun s hs => ⟨upd_ne hs, upd_ne hs⟩⟩
end Go.Proofs.YtbceiadaihphaaaGreat
set_option linter.unusedVariables false
set_option linter.unusedSimpArgs false
namespace Go.Proofs.YtbceiadaihphaaaGreat
open Go.Am
@[go_sem] theorem guardQ_undef {b : Bool} : guardQ (some undefV) b = false := rfl
def lw (l : List Ev) (t : Nat) : Nat → Int
 | 0 => -1
 | k + 1 => match l[k]? with
  | some z => if z.2.1 = t ∧ z.2.2.1 = 3 then (k : Int) else lw l t k
  | none => lw l t k
theorem lw_step {l : List Ev} {t k : Nat} {z : Ev} (h : l[k]? = some z) : lw l t (k + 1) = if z.2.1 = t ∧ z.2.2.1 = 3 then (k : Int) else lw l t k := by
 rw [lw, h]
theorem lw_last {l : List Ev} {i t fr : Nat} {y : Ev} (h : LastW l i t fr y) : lw l t i = fr := by
 obtain ⟨h1, h2, h3, h4, h5⟩ := h
 have key : ∀ m, fr + 1 + m ≤ i → lw l t (fr + 1 + m) = fr := by
  intro m
  induction m with
  | zero => intro _; rw [Nat.add_zero, lw_step h2, if_pos ⟨h3, h4⟩]
  | succ m ih =>
   intro hm
   rw [show fr + 1 + (m + 1) = (fr + 1 + m) + 1 by omega, lw]
   cases hz : l[fr + 1 + m]? with
   | none => exact ih (by omega)
   | some z =>
    simp only
    rw [if_neg (fun q => h5 _ z (by omega) (by omega) hz q.1 q.2)]
    exact ih (by omega)
 have := key (i - (fr + 1)) (by omega)
 rwa [show fr + 1 + (i - (fr + 1)) = i by omega] at this
def lf (l : List Ev) (t k0 : Nat) (j : Nat) : Bool := (List.range j).any fun x => decide (k0 < x) && (match l[x]? with | some z => decide (z.2.2.1 = 2 ∧ z.2.1 = t) | none => false)
theorem lf_step {l : List Ev} {t k0 j : Nat} {z : Ev} (hk : k0 < j) (h : l[j]? = some z) : lf l t k0 (j + 1) = (lf l t k0 j || decide (z.2.2.1 = 2 ∧ z.2.1 = t)) := by
 unfold lf
 rw [List.range_succ, List.any_append]
 simp [h, hk]
theorem lf_zero {l : List Ev} {t k0 : Nat} : lf l t k0 (k0 + 1) = false := by
 unfold lf
 rw [List.any_eq_false]
 intro x hx
 have : x < k0 + 1 := by simpa using hx
 simp; omega
theorem lf_left {l : List Ev} {t k0 i : Nat} (h : Left l k0 t i) : lf l t k0 i = true := by
 obtain ⟨j, w, h1, h2, h3, h4, h5⟩ := h
 unfold lf
 rw [List.any_eq_true]
 exact ⟨j, by simpa using h2, by simp [h1, h3, h4, h5]⟩
theorem evL_get : ∀ {l : List Ev} {i : Nat} {z : Ev}, l[i]? = some z → (evL l)[i * 4]? = some (I6 z.1) ∧ (evL l)[i * 4 + 1]? = some (I6 z.2.1) ∧ (evL l)[i * 4 + 2]? = some (U8 z.2.2.1) ∧ (evL l)[i * 4 + 3]? = some (U6 z.2.2.2)
 | [], i, z, h => by simp at h
 | p :: l, 0, z, h => by simp at h; subst h; exact ⟨rfl, rfl, rfl, rfl⟩
 | p :: l, i + 1, z, h => by
  have := evL_get (l := l) (i := i) (by simpa using h)
  have q : evL (p :: l) = I6 p.1 :: I6 p.2.1 :: U8 p.2.2.1 :: U6 p.2.2.2 :: evL l := rfl
  rw [q, show (i + 1) * 4 = i * 4 + 1 + 1 + 1 + 1 by omega]
  obtain ⟨h1, h2, h3, h4⟩ := this
  exact ⟨by simpa using h1, by simpa using h2, by simpa using h3, by simpa using h4⟩
end Go.Proofs.YtbceiadaihphaaaGreat
set_option linter.unusedVariables false
set_option linter.unusedSimpArgs false
namespace Go.Proofs.YtbceiadaihphaaaGreat
open Go.Am
variable {e : Eng} {rep : e.σ → Nat → (Rl → Nat) → (Rl → Option ABlk) → Prop} {hasv guard fresh : e.σ → Nat → Nat → Prop} {pcE pcW : e.σ → Nat → Int} {kd nb nw xp : Nat} {s0 : e.σ}
theorem opsOf_ok {As : List (List (List Int))} {d : Rl → Nat} {C : Rl → Option ABlk} {ps : Value} (P : Pa d C ps As) (hA2 : ∀ (i : Nat) (A : List (List Int)), As[i]? = some A → A.length ≤ 30) : OpsOk (opsOf As) As.length := by
 intro t ht
 obtain ⟨A, hA⟩ : ∃ A, As[t]? = some A := ⟨As[t], List.getElem?_eq_getElem ht⟩
 obtain ⟨cap, vs, -, -, -, hvs⟩ := P.out
 have hops : opsOf As t = opsA A := by unfold opsOf; rw [hA]; rfl
 rw [hops, opsA_length]
 exact ⟨hA2 t A hA, (opsA_row (hvs t A hA).1).2⟩
set_option maxRecDepth 100000 in
set_option maxHeartbeats 8000000 in
theorem madeB {As : List (List (List Int))} (K : Kit e As.length rep hasv guard fresh pcE pcW kd nb nw s0 xp) (Q : RS e → Prop) (hstep : ∀ r t, t < As.length → Q r → RInv (opsOf As) xp hasv fresh As.length r ∧ Q (RS.pick (opsOf As) xp r t)) (q0 : Q (RS.begs (opsOf As) xp (RS.zero s0) As.length)) {x : Nat} {b : Int} (hkd : x % 3 + 1 = kd) (hnb : if kd = 3 then (1 + (b.tmod 4 + 4).tmod 4 : Int) = nb else nb = 0) {ps s : Value} {A : List (List Int)} {d : Rl → Nat} {C : Rl → Option ABlk} {h : PT ABlk} {n : Nat} (S : St h n d C) (P : Pa d C ps As) (hA : IsPicks d C s A) (hA1 : 0 < As.length ∧ As.length ≤ 8) (hA2 : ∀ (i : Nat) (A : List (List Int)), As[i]? = some A → A.length ≤ 30) (hl : A.length ≤ 500) (c20 : C (20, 0) = none) (c8 : C (98, 0) = none) (c9 : C (99, 0) = none) :
  EvB Tryz.prog OP 8 [.agg ⟨[U8 x, I6 b]⟩, ps, s] h n fun v h' n' => ∃ r' k' d' C', v = pt (d' (40, 0)) ∧ Rg rep (opsOf As) As.length d' C' (d' (40, 0)) A.length r' k' d' C' h' n' ∧ Q r' ∧ ∀ a b, 62 ≤ a → d' (a, b) = d (a, b) ∧ C' (a, b) = C (a, b) := by
 have hkd3 : kd = 1 ∨ kd = 2 ∨ kd = 3 := by omega
 have hx1 : (x : Int).tmod 3 = ((x % 3 : Nat) : Int) := rfl
 have hx2 : x % 3 < 3 := Nat.mod_lt _ (by decide)
 have hx3 : x % 3 = kd - 1 := by omega
 have ok := opsOf_ok P hA2
 have cp := copyB (S.junk (B := some (.cells (PT.ofList .leaf 0 [U8 x, I6 b]) false)) (Nat.le_refl _) (Nat.lt_succ_self _)) P hA1 hA2
 have b1 := Int.tmod_lt_of_pos b (show (0 : Int) < 4 by omega)
 have b2 := Int.lt_tmod_of_pos b (show (0 : Int) < 4 by omega)
 have b3 := Int.tmod_lt_of_pos (b.tmod 4 + 4) (show (0 : Int) < 4 by omega)
 have b4 := Int.tmod_nonneg 4 (show 0 ≤ b.tmod 4 + 4 by omega)
 obtain ⟨b5, hb5⟩ : ∃ b5, (b.tmod 4 + 4).tmod 4 = b5 := ⟨_, rfl⟩
 rw [hb5] at b3 b4 hnb
 rw [hx3] at hx1
 clear hx2 hx3 hkd
 refine EvB_run (N := 48) Tryz.func8 rfl rfl fun z hP hO hro hN hQ => ?_
 have z0 : ((0 : Nat) : Int) = 0 := rfl
 have z1 : ((1 : Nat) : Int) = 1 := rfl
 have z2 : ((2 : Nat) : Int) = 2 := rfl
 have z3 : ((3 : Nat) : Int) = 3 := rfl
 rcases hkd3 with rfl | rfl | rfl
 ·rw [if_neg (by omega)] at hnb
  subst hnb
  repeat' first | simp (maxSteps := 2000000) (disch := first | omega | assumption) only [go_sem, *] | (apply xs <;> intro _) <;> try omega
  refine cal (cp) (by simp only [*]) (by simp only [*]) (by simp only [go_sem, *]) (by simp only [go_sem, *]) ?_
  rintro v h1 n1 ⟨d1, C1, S1, P1, k1⟩
  clear cp
  repeat' first | simp (maxSteps := 2000000) (disch := first | omega | assumption) only [go_sem, *] | (apply xs <;> intro _) <;> try omega
  have en := rnewB K.hns K.F K.G K.Fe K.kind K.xp K.B ok S1 P1 ((k1 20 0 (by omega) (by omega)).2.trans c20)
  simp only [z0, z1, z2, z3] at en
  refine cal (en) (by simp only [*]) (by simp only [*]) (by simp only [go_sem, *]) (by simp only [go_sem, *]) ?_
  rintro v2 h2 n2 ⟨d2, C2, rfl, S2, R2, k2⟩
  clear en
  obtain ⟨I0, -, -, -, q4, q5⟩ := begs_inv K.G K.Fe K.B.idle (ops := opsOf As) (xp := xp) As.length
  have g0 : Rg rep (opsOf As) As.length d2 C2 (d2 (40, 0)) 0 (RS.begs (opsOf As) xp (RS.zero s0) As.length) 0 d2 C2 h2 n2 := ⟨S2, rfl, R2, Nat.le_refl _, by rw [q5]; exact Nat.zero_le _, q4, fun _ _ _ => ⟨rfl, rfl⟩⟩
  have hA3 := (hA.of (k1 62 0 (by omega) (by omega)).1 (k1 62 0 (by omega) (by omega)).2).of (k2 62 0 (by omega)).1 (k2 62 0 (by omega)).2
  have hall : ∀ a b, 62 ≤ a → d2 (a, b) = d (a, b) ∧ C2 (a, b) = C (a, b) := fun a b c => ⟨(k2 a b (by omega)).1.trans (k1 a b (by omega) (by omega)).1, (k2 a b (by omega)).2.trans (k1 a b (by omega) (by omega)).2⟩
  repeat' first | simp (maxSteps := 2000000) (disch := first | omega | assumption) only [go_sem, *] | (apply xs <;> intro _) <;> try omega
  refine cal (runB K ok Q hstep g0 q0 hA3 hl (by omega) ((hall 98 0 (by omega)).2.trans c8) ((hall 99 0 (by omega)).2.trans c9)) (by simp only [*]) (by simp only [*]) (by simp only [go_sem, *]) (by simp only [go_sem, *]) ?_
  rintro v3 h3 n3 ⟨⟨c, rfl⟩, r', k', d3, C3, g3, q3⟩
  clear I0 q4 q5 g0 S2 R2 S1 P1 hA3
  repeat' first | simp (maxSteps := 2000000) (disch := first | omega | assumption) only [go_sem, *] | (apply xs <;> intro _) <;> try omega
  rw [← g3.at_]
  exact ⟨r', k', d3, C3, rfl, ⟨g3.S, rfl, g3.R, by have := g3.k; omega, by have := g3.ev; omega, by have := g3.n; omega, fun _ _ _ => ⟨rfl, rfl⟩⟩, q3, fun a b c => ⟨(g3.oth a b (by omega)).1.trans (hall a b c).1, (g3.oth a b (by omega)).2.trans (hall a b c).2⟩⟩
 ·rw [if_neg (by omega)] at hnb
  subst hnb
  repeat' first | simp (maxSteps := 2000000) (disch := first | omega | assumption) only [go_sem, *] | (apply xs <;> intro _) <;> try omega
  refine cal (cp) (by simp only [*]) (by simp only [*]) (by simp only [go_sem, *]) (by simp only [go_sem, *]) ?_
  rintro v h1 n1 ⟨d1, C1, S1, P1, k1⟩
  clear cp
  repeat' first | simp (maxSteps := 2000000) (disch := first | omega | assumption) only [go_sem, *] | (apply xs <;> intro _) <;> try omega
  have en := rnewB K.hns K.F K.G K.Fe K.kind K.xp K.B ok S1 P1 ((k1 20 0 (by omega) (by omega)).2.trans c20)
  simp only [z0, z1, z2, z3] at en
  refine cal (en) (by simp only [*]) (by simp only [*]) (by simp only [go_sem, *]) (by simp only [go_sem, *]) ?_
  rintro v2 h2 n2 ⟨d2, C2, rfl, S2, R2, k2⟩
  clear en
  obtain ⟨I0, -, -, -, q4, q5⟩ := begs_inv K.G K.Fe K.B.idle (ops := opsOf As) (xp := xp) As.length
  have g0 : Rg rep (opsOf As) As.length d2 C2 (d2 (40, 0)) 0 (RS.begs (opsOf As) xp (RS.zero s0) As.length) 0 d2 C2 h2 n2 := ⟨S2, rfl, R2, Nat.le_refl _, by rw [q5]; exact Nat.zero_le _, q4, fun _ _ _ => ⟨rfl, rfl⟩⟩
  have hA3 := (hA.of (k1 62 0 (by omega) (by omega)).1 (k1 62 0 (by omega) (by omega)).2).of (k2 62 0 (by omega)).1 (k2 62 0 (by omega)).2
  have hall : ∀ a b, 62 ≤ a → d2 (a, b) = d (a, b) ∧ C2 (a, b) = C (a, b) := fun a b c => ⟨(k2 a b (by omega)).1.trans (k1 a b (by omega) (by omega)).1, (k2 a b (by omega)).2.trans (k1 a b (by omega) (by omega)).2⟩
  repeat' first | simp (maxSteps := 2000000) (disch := first | omega | assumption) only [go_sem, *] | (apply xs <;> intro _) <;> try omega
  refine cal (runB K ok Q hstep g0 q0 hA3 hl (by omega) ((hall 98 0 (by omega)).2.trans c8) ((hall 99 0 (by omega)).2.trans c9)) (by simp only [*]) (by simp only [*]) (by simp only [go_sem, *]) (by simp only [go_sem, *]) ?_
  rintro v3 h3 n3 ⟨⟨c, rfl⟩, r', k', d3, C3, g3, q3⟩
  clear I0 q4 q5 g0 S2 R2 S1 P1 hA3
  repeat' first | simp (maxSteps := 2000000) (disch := first | omega | assumption) only [go_sem, *] | (apply xs <;> intro _) <;> try omega
  rw [← g3.at_]
  exact ⟨r', k', d3, C3, rfl, ⟨g3.S, rfl, g3.R, by have := g3.k; omega, by have := g3.ev; omega, by have := g3.n; omega, fun _ _ _ => ⟨rfl, rfl⟩⟩, q3, fun a b c => ⟨(g3.oth a b (by omega)).1.trans (hall a b c).1, (g3.oth a b (by omega)).2.trans (hall a b c).2⟩⟩
 ·rw [if_pos rfl] at hnb
  repeat' first | simp (maxSteps := 2000000) (disch := first | omega | assumption) only [go_sem, *] | (apply xs <;> intro _) <;> try omega
  refine cal (cp) (by simp only [*]) (by simp only [*]) (by simp only [go_sem, *]) (by simp only [go_sem, *]) ?_
  rintro v h1 n1 ⟨d1, C1, S1, P1, k1⟩
  clear cp
  repeat' first | simp (maxSteps := 2000000) (disch := first | omega | assumption) only [go_sem, *] | (apply xs <;> intro _) <;> try omega
  have en := rnewB K.hns K.F K.G K.Fe K.kind K.xp K.B ok S1 P1 ((k1 20 0 (by omega) (by omega)).2.trans c20)
  simp only [z0, z1, z2, z3] at en
  refine cal (en) (by simp only [*]) (by simp only [*]) (by simp only [go_sem, *]) (by simp only [go_sem, *]) ?_
  rintro v2 h2 n2 ⟨d2, C2, rfl, S2, R2, k2⟩
  clear en
  obtain ⟨I0, -, -, -, q4, q5⟩ := begs_inv K.G K.Fe K.B.idle (ops := opsOf As) (xp := xp) As.length
  have g0 : Rg rep (opsOf As) As.length d2 C2 (d2 (40, 0)) 0 (RS.begs (opsOf As) xp (RS.zero s0) As.length) 0 d2 C2 h2 n2 := ⟨S2, rfl, R2, Nat.le_refl _, by rw [q5]; exact Nat.zero_le _, q4, fun _ _ _ => ⟨rfl, rfl⟩⟩
  have hA3 := (hA.of (k1 62 0 (by omega) (by omega)).1 (k1 62 0 (by omega) (by omega)).2).of (k2 62 0 (by omega)).1 (k2 62 0 (by omega)).2
  have hall : ∀ a b, 62 ≤ a → d2 (a, b) = d (a, b) ∧ C2 (a, b) = C (a, b) := fun a b c => ⟨(k2 a b (by omega)).1.trans (k1 a b (by omega) (by omega)).1, (k2 a b (by omega)).2.trans (k1 a b (by omega) (by omega)).2⟩
  repeat' first | simp (maxSteps := 2000000) (disch := first | omega | assumption) only [go_sem, *] | (apply xs <;> intro _) <;> try omega
  refine cal (runB K ok Q hstep g0 q0 hA3 hl (by omega) ((hall 98 0 (by omega)).2.trans c8) ((hall 99 0 (by omega)).2.trans c9)) (by simp only [*]) (by simp only [*]) (by simp only [go_sem, *]) (by simp only [go_sem, *]) ?_
  rintro v3 h3 n3 ⟨⟨c, rfl⟩, r', k', d3, C3, g3, q3⟩
  clear I0 q4 q5 g0 S2 R2 S1 P1 hA3
  repeat' first | simp (maxSteps := 2000000) (disch := first | omega | assumption) only [go_sem, *] | (apply xs <;> intro _) <;> try omega
  rw [← g3.at_]
  exact ⟨r', k', d3, C3, rfl, ⟨g3.S, rfl, g3.R, by have := g3.k; omega, by have := g3.ev; omega, by have := g3.n; omega, fun _ _ _ => ⟨rfl, rfl⟩⟩, q3, fun a b c => ⟨(g3.oth a b (by omega)).1.trans (hall a b c).1, (g3.oth a b (by omega)).2.trans (hall a b c).2⟩⟩
end Go.Proofs.YtbceiadaihphaaaGreat
