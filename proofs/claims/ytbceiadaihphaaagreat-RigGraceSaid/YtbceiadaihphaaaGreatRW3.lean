/-
  A part of the proof: contracts of inner functions.
-/
import Derived.Test.YtbceiadaihphaaaGreatRV5
set_option linter.unusedVariables false
set_option linter.unusedSimpArgs false
namespace Go.Proofs.YtbceiadaihphaaaGreat
open Go.Am
variable {e : Eng}
structure RS (e : Eng) where
 s : e.σ
 idx : Nat → Nat
 pc : Nat → Nat
 bg : Nat → Bool
 val : Nat → Nat
 n : Nat
 ev : List (Nat × Nat × Nat × Nat)
abbrev Ops := Nat → List (Nat × Nat)
def RS.beg (ops : Ops) (xp : Nat) (r : RS e) (k : Nat) : RS e := match (ops k)[r.idx k]? with
 | none => { r with pc := fs r.pc k 0 }
 | some (kd, v) =>
  if kd = 1 ∧ v < 64 ∧ e.inn r.s k = false then { r with s := e.enter r.s k v, val := fs r.val k v, pc := fs r.pc k 0 }
  else if kd = 2 ∧ v = 0 ∧ e.inn r.s k = true then { r with pc := fs r.pc k xp }
  else if kd = 3 ∧ v ≠ 0 ∧ e.inn r.s k = false then { r with s := e.wait r.s k v, bg := fs r.bg k false, pc := fs r.pc k 0 }
  else { r with pc := fs r.pc k 1 }
def RS.next (ops : Ops) (xp : Nat) (r : RS e) (k : Nat) : RS e := RS.beg ops xp { r with idx := fs r.idx k (r.idx k + 1) } k
def RS.setOf (ops : Ops) (r : RS e) (k : Nat) : Nat := match (ops k)[r.idx k]? with
 | none => 0
 | some (_, v) => v
def RS.step (ops : Ops) (xp : Nat) (r : RS e) (k : Nat) : RS e :=
 if e.ent r.s k = true then
  (if e.ent (e.estep r.s k) k = true then { r with s := e.estep r.s k } else RS.next ops xp { r with s := e.estep r.s k, ev := r.ev ++ [(r.n, k, 1, r.val k)] } k)
 else if e.wt r.s k = true then
  (if e.wt (e.wstep r.s k) k = true then { r with s := e.wstep r.s k, bg := fs r.bg k true, ev := if r.bg k = true then r.ev else r.ev ++ [(r.n, k, 3, r.setOf ops k)] }
   else RS.next ops xp { r with s := e.wstep r.s k, bg := fs r.bg k true, ev := (if r.bg k = true then r.ev else r.ev ++ [(r.n, k, 3, r.setOf ops k)]) ++ [(r.n, k, 4, r.setOf ops k)] } k)
 else if r.pc k = 1 then RS.next ops xp r k
 else RS.next ops xp { r with s := e.exit r.s k, ev := r.ev ++ [(r.n, k, 2, r.val k)] } k
def RS.active (r : RS e) (k : Nat) : Prop := e.ent r.s k = true ∨ e.wt r.s k = true ∨ r.pc k ≠ 0
def RS.up (r : RS e) : RS e := { r with n := r.n + 1 }
inductive At (ops : Ops) (xp : Nat) (r : RS e) (k : Nat) : Prop where
 | over (h : (ops k)[r.idx k]? = none) (h1 : e.ent r.s k = false) (h2 : e.wt r.s k = false) (h3 : r.pc k = 0)
 | ent (v : Nat) (h : (ops k)[r.idx k]? = some (1, v)) (hv : v < 64) (h1 : e.ent r.s k = true) (h2 : e.wt r.s k = false) (h3 : r.pc k = 0) (h4 : r.val k = v)
 | wait (v : Nat) (h : (ops k)[r.idx k]? = some (3, v)) (hv : v ≠ 0) (h1 : e.ent r.s k = false) (h2 : e.wt r.s k = true) (h3 : r.pc k = 0)
 | exit (h : (ops k)[r.idx k]? = some (2, 0)) (h1 : e.ent r.s k = false) (h2 : e.wt r.s k = false) (h3 : r.pc k = xp) (h4 : e.inn r.s k = true)
 | refuse (o : Nat × Nat) (h : (ops k)[r.idx k]? = some o) (h1 : e.ent r.s k = false) (h2 : e.wt r.s k = false) (h3 : r.pc k = 1)
structure RInv (ops : Ops) (xp : Nat) (hasv : e.σ → Nat → Nat → Prop) (fresh : e.σ → Nat → Nat → Prop) (ns : Nat) (r : RS e) : Prop where
 one : One e r.s
 at_ : ∀ k, k < ns → At ops xp r k
 val : ∀ k, e.ent r.s k = true ∨ e.inn r.s k = true → r.val k < 64 ∧ hasv r.s k (r.val k)
 fr : ∀ k v, k < ns → e.wt r.s k = true → (ops k)[r.idx k]? = some (3, v) → r.bg k = false → fresh r.s k v
 fits : ∀ k, k < ns → r.idx k ≤ (ops k).length
theorem At.of {ops : Ops} {xp : Nat} {r r' : RS e} {k : Nat} (a : At ops xp r k) (hi : r'.idx k = r.idx k) (h1 : e.ent r'.s k = e.ent r.s k) (h2 : e.wt r'.s k = e.wt r.s k) (h3 : e.inn r'.s k = e.inn r.s k) (h4 : r'.pc k = r.pc k) (h5 : r'.val k = r.val k) : At ops xp r' k := by
 cases a with
 | over a b c d => exact .over (by rw [hi]; exact a) (h1.trans b) (h2.trans c) (h4.trans d)
 | ent v a b c d f g => exact .ent v (by rw [hi]; exact a) b (h1.trans c) (h2.trans d) (h4.trans f) (h5.trans g)
 | wait v a b c d f => exact .wait v (by rw [hi]; exact a) b (h1.trans c) (h2.trans d) (h4.trans f)
 | exit a b c d f => exact .exit (by rw [hi]; exact a) (h1.trans b) (h2.trans c) (h4.trans d) (h3.trans f)
 | refuse o a b c d => exact .refuse o (by rw [hi]; exact a) (h1.trans b) (h2.trans c) (h4.trans d)
section
variable {ops : Ops} {xp ns : Nat} {hasv : e.σ → Nat → Nat → Prop} {guard : e.σ → Nat → Nat → Prop} {fresh : e.σ → Nat → Nat → Prop}
structure RPre (ops : Ops) (xp : Nat) (hasv : e.σ → Nat → Nat → Prop) (fresh : e.σ → Nat → Nat → Prop) (ns : Nat) (r : RS e) (k : Nat) : Prop where
 one : One e r.s
 at_ : ∀ u, u < ns → u ≠ k → At ops xp r u
 idle : e.ent r.s k = false ∧ e.wt r.s k = false
 val : ∀ k, e.ent r.s k = true ∨ e.inn r.s k = true → r.val k < 64 ∧ hasv r.s k (r.val k)
 fr : ∀ u v, u < ns → u ≠ k → e.wt r.s u = true → (ops u)[r.idx u]? = some (3, v) → r.bg u = false → fresh r.s u v
 fits : ∀ u, u < ns → r.idx u ≤ (ops u).length
theorem RPre.beg {ng : Nat} (G : e.Grace ng hasv guard) (Fr : e.Fresh ng hasv guard fresh) {r : RS e} {k : Nat} (p : RPre ops xp hasv fresh ns r k) : RInv ops xp hasv fresh ns (RS.beg ops xp r k) ∧ (RS.beg ops xp r k).idx = r.idx ∧ (RS.beg ops xp r k).n = r.n ∧ (RS.beg ops xp r k).ev = r.ev ∧ ∀ u, e.inn (RS.beg ops xp r k).s u = e.inn r.s u := by
 obtain ⟨one, at_, ⟨i1, i2⟩, val, fr, fits⟩ := p
 unfold RS.beg
 cases ho : (ops k)[r.idx k]? with
 | none =>
  refine ⟨⟨one, fun u hu => ?_, val, fun u v hu hw hq hb => ?_, fits⟩, rfl, rfl, rfl, fun _ => rfl⟩
  ·by_cases c : u = k
   ·subst c; exact .over ho i1 i2 fs_same
   ·exact (at_ u hu c).of rfl rfl rfl rfl (fs_ne c) rfl
  ·by_cases c : u = k
   ·subst c
    have hw' : e.wt r.s u = true := hw
    rw [i2] at hw'; simp at hw'
   ·exact fr u v hu c hw hq hb
 | some o =>
  obtain ⟨kd, v⟩ := o
  simp only
  by_cases c1 : kd = 1 ∧ v < 64 ∧ e.inn r.s k = false
  ·rw [if_pos c1]
   obtain ⟨rfl, hv, hi⟩ := c1
   obtain ⟨f1, f2, f3⟩ := G.fits.enter r.s k v hi
   refine ⟨⟨fun u => ?_, fun u hu => ?_, fun u hu => ?_, fun u w hu hw hq hb => ?_, fits⟩, rfl, rfl, rfl, f2⟩
   ·show (e.ent (e.enter r.s k v) u = true → e.inn (e.enter r.s k v) u = false ∧ e.wt (e.enter r.s k v) u = false) ∧ (e.inn (e.enter r.s k v) u = true → e.wt (e.enter r.s k v) u = false)
    rw [f1, f2, f3]
    by_cases c : u = k
    ·subst c; rw [hi, i2]; simp
    ·rw [if_neg c]; exact one u
   ·by_cases c : u = k
    ·subst c
     exact .ent v ho hv ((f1 u).trans (if_pos rfl)) ((f3 u).trans i2) fs_same fs_same
    ·exact (at_ u hu c).of rfl ((f1 u).trans (if_neg c)) (f3 u) (f2 u) (fs_ne c) (fs_ne c)
   ·show fs r.val k v u < 64 ∧ hasv (e.enter r.s k v) u (fs r.val k v u)
    by_cases c : u = k
    ·subst c; rw [fs_same]; exact ⟨hv, G.hEnter _ _ _⟩
    ·rw [fs_ne c]
     have hu' : e.ent (e.enter r.s k v) u = true ∨ e.inn (e.enter r.s k v) u = true := hu
     rw [f1, f2, if_neg c] at hu'
     exact ⟨(val u hu').1, G.hEnter' _ _ _ _ _ c (val u hu').2⟩
   ·have hw' : e.wt (e.enter r.s k v) u = true := hw
    rw [f3] at hw'
    have c : u ≠ k := fun q => by subst q; rw [i2] at hw'; simp at hw'
    exact Fr.enter _ _ _ _ _ (fr u w hu c hw' hq hb)
  ·rw [if_neg c1]
   by_cases c2 : kd = 2 ∧ v = 0 ∧ e.inn r.s k = true
   ·rw [if_pos c2]
    obtain ⟨rfl, rfl, hi⟩ := c2
    refine ⟨⟨one, fun u hu => ?_, val, fun u v hu hw hq hb => ?_, fits⟩, rfl, rfl, rfl, fun _ => rfl⟩
    ·by_cases c : u = k
     ·subst c; exact .exit ho i1 i2 fs_same hi
     ·exact (at_ u hu c).of rfl rfl rfl rfl (fs_ne c) rfl
    ·by_cases c : u = k
     ·subst c
      have hw' : e.wt r.s u = true := hw
      rw [i2] at hw'; simp at hw'
     ·exact fr u v hu c hw hq hb
   ·rw [if_neg c2]
    by_cases c3 : kd = 3 ∧ v ≠ 0 ∧ e.inn r.s k = false
    ·rw [if_pos c3]
     obtain ⟨rfl, hv, hi⟩ := c3
     obtain ⟨f1, f2, f3⟩ := G.fits.wait r.s k v
     refine ⟨⟨fun u => ?_, fun u hu => ?_, fun u hu => ?_, fun u w hu hw hq hb => ?_, fits⟩, rfl, rfl, rfl, f2⟩
     ·show (e.ent (e.wait r.s k v) u = true → e.inn (e.wait r.s k v) u = false ∧ e.wt (e.wait r.s k v) u = false) ∧ (e.inn (e.wait r.s k v) u = true → e.wt (e.wait r.s k v) u = false)
      rw [f1, f2, f3]
      by_cases c : u = k
      ·subst c; rw [hi, i1]; simp
      ·rw [if_neg c]; exact one u
     ·by_cases c : u = k
      ·subst c
       exact .wait v ho hv ((f1 u).trans i1) ((f3 u).trans (if_pos rfl)) fs_same
      ·exact (at_ u hu c).of rfl (f1 u) ((f3 u).trans (if_neg c)) (f2 u) (fs_ne c) rfl
     ·have hu' : e.ent (e.wait r.s k v) u = true ∨ e.inn (e.wait r.s k v) u = true := hu
      rw [f1, f2] at hu'
      exact ⟨(val u hu').1, G.hWait _ _ _ _ _ (val u hu').2⟩
     ·by_cases c : u = k
      ·subst c
       have hq' : (ops u)[r.idx u]? = some (3, w) := hq
       rw [ho] at hq'
       obtain ⟨-, rfl⟩ := Prod.mk.inj (Option.some.inj hq')
       exact Fr.beg _ _ _
      ·have hw' : e.wt (e.wait r.s k v) u = true := hw
       rw [f3, if_neg c] at hw'
       have hb' : fs r.bg k false u = false := hb
       rw [fs_ne c] at hb'
       exact Fr.wait _ _ _ _ _ c (fr u w hu c hw' hq hb')
    ·rw [if_neg c3]
     refine ⟨⟨one, fun u hu => ?_, val, fun u v hu hw hq hb => ?_, fits⟩, rfl, rfl, rfl, fun _ => rfl⟩
     ·by_cases c : u = k
      ·subst c; exact .refuse _ ho i1 i2 fs_same
      ·exact (at_ u hu c).of rfl rfl rfl rfl (fs_ne c) rfl
     ·by_cases c : u = k
      ·subst c
       have hw' : e.wt r.s u = true := hw
       rw [i2] at hw'; simp at hw'
      ·exact fr u v hu c hw hq hb
end
end Go.Proofs.YtbceiadaihphaaaGreat
set_option linter.unusedVariables false
set_option linter.unusedSimpArgs false
namespace Go.Proofs.YtbceiadaihphaaaGreat
open Go.Am
variable {e : Eng} {ops : Ops} {xp ns : Nat} {hasv : e.σ → Nat → Nat → Prop} {guard : e.σ → Nat → Nat → Prop} {fresh : e.σ → Nat → Nat → Prop}
theorem lt_of_op {l : List (Nat × Nat)} {i : Nat} {o : Nat × Nat} (h : l[i]? = some o) : i + 1 ≤ l.length := (List.getElem?_eq_some_iff.1 h).1
theorem RInv.pre (G : e.Grace ns hasv guard) {r : RS e} {k : Nat} (I : RInv ops xp hasv fresh ns r) (hk : k < ns) {s' : e.σ} {ev' : List (Nat × Nat × Nat × Nat)} {bg' : Nat → Bool} {o : Nat × Nat} (ho : (ops k)[r.idx k]? = some o)
  (h1 : ∀ u, u ≠ k → e.ent s' u = e.ent r.s u ∧ e.wt s' u = e.wt r.s u ∧ e.inn s' u = e.inn r.s u) (he : e.ent s' k = false) (hw : e.wt s' k = false) (hv : ∀ u, e.inn s' u = true → r.val u < 64 ∧ hasv s' u (r.val u)) (hv2 : ∀ u, u ≠ k → e.ent s' u = true → hasv s' u (r.val u)) (hf : ∀ u v, u ≠ k → fresh r.s u v → fresh s' u v) (hb : ∀ u, u ≠ k → bg' u = r.bg u) :
  RPre ops xp hasv fresh ns ({ r with s := s', ev := ev', bg := bg', idx := fs r.idx k (r.idx k + 1) } : RS e) k := by
 refine ⟨fun u => ?_, fun u hu c => ?_, ⟨he, hw⟩, fun u hu => ?_, fun u v hu c hwu hq hbu => ?_, fun u hu => ?_⟩
 ·by_cases c : u = k
  ·subst c
   exact ⟨fun q => by rw [show e.ent s' u = false from he] at q; simp at q, fun _ => hw⟩
  ·obtain ⟨a1, a2, a3⟩ := h1 u c
   have o := I.one u
   rw [← a1, ← a2, ← a3] at o
   exact o
 ·obtain ⟨a1, a2, a3⟩ := h1 u c
  exact (I.at_ u hu).of (fs_ne c) a1 a2 a3 rfl rfl
 ·rcases hu with hu | hu
  ·by_cases c : u = k
   ·subst c
    rw [show e.ent s' u = false from he] at hu; simp at hu
   ·have hu' : e.ent s' u = true := hu
    have := I.val u (.inl (by rw [← (h1 u c).1]; exact hu'))
    exact ⟨this.1, hv2 u c hu'⟩
  ·exact hv u hu
 ·have hwu' : e.wt s' u = true := hwu
  have hq' : (ops u)[fs r.idx k (r.idx k + 1) u]? = some (3, v) := hq
  rw [fs_ne c] at hq'
  have hbu' : bg' u = false := hbu
  exact hf u v c (I.fr u v hu (by rw [← (h1 u c).2.1]; exact hwu') hq' (by rw [← hb u c]; exact hbu'))
 ·show fs r.idx k (r.idx k + 1) u ≤ _
  by_cases c : u = k
  ·subst c; rw [fs_same]; exact lt_of_op ho
  ·rw [fs_ne c]; exact I.fits u hu
theorem RInv.step (G : e.Grace ns hasv guard) (Fr : e.Fresh ns hasv guard fresh) {r : RS e} {k : Nat} (I : RInv ops xp hasv fresh ns r) (hk : k < ns) (hx : xp ≠ 0 ∧ xp ≠ 1) (ha : r.active k) : RInv ops xp hasv fresh ns (RS.step ops xp r k) := by
 have inx : ∀ t, e.ent r.s t = true → e.inn r.s t = false := fun t h => ((I.one t).1 h).1
 unfold RS.step
 cases I.at_ k hk with
 | over h h1 h2 h3 =>
  rcases ha with q | q | q
  ·rw [h1] at q; simp at q
  ·rw [h2] at q; simp at q
  ·exact absurd h3 q
 | ent v h hv h1 h2 h3 h4 =>
  rw [if_pos h1]
  obtain ⟨f1, f2, f3⟩ := G.fits.estep r.s k h1 (inx k h1)
  have vv : ∀ u, e.inn (e.estep r.s k) u = true → r.val u < 64 ∧ hasv (e.estep r.s k) u (r.val u) := fun u hu => by
   rw [f2] at hu
   have := I.val u (by
    by_cases c : u = k
    ·subst c; exact .inl h1
    ·rw [if_neg c] at hu; exact .inr hu)
   exact ⟨this.1, G.hStep _ _ _ _ this.2⟩
  cases hd : e.ent (e.estep r.s k) k with
  | true =>
   rw [if_pos rfl]
   refine ⟨fun u => ?_, fun u hu => ?_, fun u hu => ?_, fun u w hu hw hq hb => ?_, I.fits⟩
   ·show (e.ent (e.estep r.s k) u = true → e.inn (e.estep r.s k) u = false ∧ e.wt (e.estep r.s k) u = false) ∧ (e.inn (e.estep r.s k) u = true → e.wt (e.estep r.s k) u = false)
    rw [f2, f3]
    by_cases c : u = k
    ·subst c; rw [if_pos rfl, hd, h2]; simp
    ·rw [if_neg c, f1 u c]; exact I.one u
   ·by_cases c : u = k
    ·subst c; exact .ent v h hv hd ((f3 u).trans h2) h3 h4
    ·exact (I.at_ u hu).of rfl (f1 u c) (f3 u) ((f2 u).trans (if_neg c)) rfl rfl
   ·rcases hu with hu | hu
    ·by_cases c : u = k
     ·subst c
      have := I.val u (.inl h1)
      exact ⟨this.1, G.hStep _ _ _ _ this.2⟩
     ·have hu' : e.ent (e.estep r.s k) u = true := hu
      have := I.val u (.inl (by rw [← f1 u c]; exact hu'))
      exact ⟨this.1, G.hStep _ _ _ _ this.2⟩
    ·exact vv u hu
   ·have hw' : e.wt (e.estep r.s k) u = true := hw
    rw [f3] at hw'
    exact Fr.estep _ _ _ _ (I.fr u w hu hw' hq hb)
  | false =>
   rw [if_neg (by simp)]
   exact (RPre.beg G Fr (I.pre (s' := e.estep r.s k) (ev' := r.ev ++ [(r.n, k, 1, r.val k)]) (bg' := r.bg) G hk h (fun u c => ⟨f1 u c, f3 u, (f2 u).trans (if_neg c)⟩) hd ((f3 k).trans h2) vv (fun u c hu => by
    have := I.val u (.inl (by rw [← f1 u c]; exact hu))
    exact G.hStep _ _ _ _ this.2) (fun u v c hf => Fr.estep _ _ _ _ hf) (fun _ _ => rfl))).1
 | wait v h hv h1 h2 h3 =>
  rw [if_neg (by rw [h1]; simp), if_pos h2]
  obtain ⟨f1, f2, f3⟩ := G.fits.wstep r.s k
  have vv : ∀ u, e.ent (e.wstep r.s k) u = true ∨ e.inn (e.wstep r.s k) u = true → r.val u < 64 ∧ hasv (e.wstep r.s k) u (r.val u) := fun u hu => by
   rw [f1, f2] at hu
   have := I.val u hu
   exact ⟨this.1, G.hWstep _ _ _ _ this.2⟩
  cases hd : e.wt (e.wstep r.s k) k with
  | true =>
   rw [if_pos rfl]
   refine ⟨fun u => ?_, fun u hu => ?_, vv, fun u w hu hw hq hb => ?_, I.fits⟩
   ·show (e.ent (e.wstep r.s k) u = true → e.inn (e.wstep r.s k) u = false ∧ e.wt (e.wstep r.s k) u = false) ∧ (e.inn (e.wstep r.s k) u = true → e.wt (e.wstep r.s k) u = false)
    rw [f1, f2]
    by_cases c : u = k
    ·subst c
     have o := I.one u
     rw [h2] at o
     exact ⟨fun q => by have := (o.1 q).2; simp at this, fun q => by have := o.2 q; simp at this⟩
    ·rw [f3 u c]; exact I.one u
   ·by_cases c : u = k
    ·subst c; exact .wait v h hv ((f1 u).trans h1) hd h3
    ·exact (I.at_ u hu).of rfl (f1 u) (f3 u c) (f2 u) rfl rfl
   ·have hb' : fs r.bg k true u = false := hb
    have c : u ≠ k := fun q => by subst q; rw [fs_same] at hb'; simp at hb'
    rw [fs_ne c] at hb'
    have hw' : e.wt (e.wstep r.s k) u = true := hw
    rw [f3 u c] at hw'
    exact Fr.wstep _ _ _ _ c (I.fr u w hu hw' hq hb')
  | false =>
   rw [if_neg (by simp)]
   exact (RPre.beg G Fr (I.pre (s' := e.wstep r.s k) (bg' := fs r.bg k true) G hk h (fun u c => ⟨f1 u, f3 u c, f2 u⟩) ((f1 k).trans h1) hd (fun u hu => vv u (.inr hu)) (fun u c hu => (vv u (.inl hu)).2) (fun u v c hf => Fr.wstep _ _ _ _ c hf) (fun u c => fs_ne c))).1
 | exit h h1 h2 h3 h4 =>
  rw [if_neg (by rw [h1]; simp), if_neg (by rw [h2]; simp), if_neg (by rw [h3]; exact hx.2)]
  obtain ⟨f1, f2, f3⟩ := G.fits.exit r.s k h4
  have vv : ∀ u, u ≠ k → e.ent (e.exit r.s k) u = true ∨ e.inn (e.exit r.s k) u = true → r.val u < 64 ∧ hasv (e.exit r.s k) u (r.val u) := fun u c hu => by
   rw [f1, f2, if_neg c] at hu
   have := I.val u hu
   exact ⟨this.1, G.hExit _ _ _ _ c this.2⟩
  exact (RPre.beg G Fr (I.pre (s' := e.exit r.s k) (ev' := r.ev ++ [(r.n, k, 2, r.val k)]) (bg' := r.bg) G hk h (fun u c => ⟨f1 u, f3 u, (f2 u).trans (if_neg c)⟩) ((f1 k).trans h1) ((f3 k).trans h2) (fun u hu => by
   have c : u ≠ k := fun q => by subst q; rw [f2, if_pos rfl] at hu; simp at hu
   exact vv u c (.inr hu)) (fun u c hu => (vv u c (.inl hu)).2) (fun u v c hf => Fr.exit _ _ _ _ hf) (fun _ _ => rfl))).1
 | refuse o h h1 h2 h3 =>
  rw [if_neg (by rw [h1]; simp), if_neg (by rw [h2]; simp), if_pos h3]
  exact (RPre.beg G Fr (I.pre (s' := r.s) (ev' := r.ev) (bg' := r.bg) G hk h (fun u c => ⟨rfl, rfl, rfl⟩) h1 h2 (fun u hu => I.val u (.inr hu)) (fun u c hu => (I.val u (.inl hu)).2) (fun u v c hf => hf) (fun _ _ => rfl))).1
end Go.Proofs.YtbceiadaihphaaaGreat
set_option linter.unusedVariables false
set_option linter.unusedSimpArgs false
namespace Go.Proofs.YtbceiadaihphaaaGreat
open Go.Am
variable {e : Eng} {ops : Ops} {xp ns : Nat} {hasv : e.σ → Nat → Nat → Prop} {guard : e.σ → Nat → Nat → Prop} {fresh : e.σ → Nat → Nat → Prop}
structure Clo (P : e.σ → Prop) (k : Nat) : Prop where
 enter : ∀ s v, P s → e.inn s k = false → P (e.enter s k v)
 estep : ∀ s, P s → e.ent s k = true → e.inn s k = false → P (e.estep s k)
 exit : ∀ s, P s → e.inn s k = true → P (e.exit s k)
 wait : ∀ s v, P s → P (e.wait s k v)
 wstep : ∀ s, P s → e.wt s k = true → P (e.wstep s k)
theorem Clo.beg {P : e.σ → Prop} {k : Nat} (c : Clo P k) {r : RS e} (h : P r.s) : P (RS.beg ops xp r k).s := by
 unfold RS.beg
 split
 ·exact h
 ·split
  ·rename_i q; exact c.enter _ _ h q.2.2
  ·split
   ·exact h
   ·split
    ·exact c.wait _ _ h
    ·exact h
theorem Clo.step {P : e.σ → Prop} {k : Nat} (c : Clo P k) {r : RS e} (I : RInv ops xp hasv fresh ns r) (hk : k < ns) (hx : xp ≠ 0 ∧ xp ≠ 1) (ha : r.active k) (h : P r.s) : P (RS.step ops xp r k).s := by
 unfold RS.step
 cases I.at_ k hk with
 | over h1 h2 h3 h4 =>
  rcases ha with q | q | q
  ·rw [h2] at q; simp at q
  ·rw [h3] at q; simp at q
  ·exact absurd h4 q
 | ent v h1 hv h2 h3 h4 h5 =>
  rw [if_pos h2]
  have hp := c.estep _ h h2 ((I.one k).1 h2).1
  split
  ·exact hp
  ·exact c.beg hp
 | wait v h1 hv h2 h3 h4 =>
  rw [if_neg (by rw [h2]; simp), if_pos h3]
  have hp := c.wstep _ h h3
  split
  ·exact hp
  ·exact c.beg hp
 | exit h1 h2 h3 h4 h5 =>
  rw [if_neg (by rw [h2]; simp), if_neg (by rw [h3]; simp), if_neg (by rw [h4]; exact hx.2)]
  exact c.beg (c.exit _ h h5)
 | refuse o h1 h2 h3 h4 =>
  rw [if_neg (by rw [h2]; simp), if_neg (by rw [h3]; simp), if_pos h4]
  exact c.beg h
theorem beg_oth {r : RS e} {k u : Nat} (c : u ≠ k) : (RS.beg ops xp r k).idx u = r.idx u ∧ (RS.beg ops xp r k).pc u = r.pc u ∧ (RS.beg ops xp r k).bg u = r.bg u ∧ (RS.beg ops xp r k).val u = r.val u := by
 unfold RS.beg
 split
 ·exact ⟨rfl, fs_ne c, rfl, rfl⟩
 ·split
  ·exact ⟨rfl, fs_ne c, rfl, fs_ne c⟩
  ·split
   ·exact ⟨rfl, fs_ne c, rfl, rfl⟩
   ·split
    ·exact ⟨rfl, fs_ne c, fs_ne c, rfl⟩
    ·exact ⟨rfl, fs_ne c, rfl, rfl⟩
theorem step_oth {r : RS e} {k u : Nat} (c : u ≠ k) : (RS.step ops xp r k).idx u = r.idx u ∧ (RS.step ops xp r k).bg u = r.bg u := by
 have nx : ∀ q : RS e, q.idx = r.idx → q.bg u = r.bg u → (RS.next ops xp q k).idx u = r.idx u ∧ (RS.next ops xp q k).bg u = r.bg u := fun q h1 h2 => by
  unfold RS.next
  obtain ⟨a1, a2, a3, a4⟩ := beg_oth (ops := ops) (xp := xp) (r := { q with idx := fs q.idx k (q.idx k + 1) }) c
  refine ⟨a1.trans ((fs_ne c).trans (by rw [h1])), a3.trans h2⟩
 unfold RS.step
 split
 ·split
  ·exact ⟨rfl, rfl⟩
  ·exact nx _ rfl rfl
 ·split
  ·split
   ·exact ⟨rfl, fs_ne c⟩
   ·exact nx _ rfl (fs_ne c)
  ·split
   ·exact nx _ rfl rfl
   ·exact nx _ rfl rfl
structure SB (ops : Ops) (xp : Nat) (hasv : e.σ → Nat → Nat → Prop) (guard : e.σ → Nat → Nat → Prop) (fresh : e.σ → Nat → Nat → Prop) (r : RS e) : Prop where
 inv : RInv ops xp hasv fresh 3 r
 idx : r.idx 1 = 0
 wt : e.wt r.s 1 = true
 gd : guard r.s 1 0
 inn : e.inn r.s 0 = true
def PB (guard : e.σ → Nat → Nat → Prop) (s : e.σ) : Prop := e.wt s 1 = true ∧ guard s 1 0 ∧ e.inn s 0 = true
theorem cloB (G : e.Grace 3 hasv guard) {k : Nat} (h0 : k ≠ 0) (h1 : k ≠ 1) : Clo (PB (e := e) guard) k := by
 refine ⟨fun s v p hi => ?_, fun s p he hi => ?_, fun s p hi => ?_, fun s v p => ?_, fun s p hw => ?_⟩
 ·obtain ⟨f1, f2, f3⟩ := G.fits.enter s k v hi
  exact ⟨(f3 1).trans p.1, G.gEnter _ _ _ _ _ p.1 p.2.1 p.2.2 h0.symm, (f2 0).trans p.2.2⟩
 ·obtain ⟨f1, f2, f3⟩ := G.fits.estep s k he hi
  exact ⟨(f3 1).trans p.1, G.gStep _ _ _ _ p.1 p.2.1 p.2.2 h0.symm, ((f2 0).trans (if_neg h0.symm)).trans p.2.2⟩
 ·obtain ⟨f1, f2, f3⟩ := G.fits.exit s k hi
  exact ⟨(f3 1).trans p.1, G.gExit _ _ _ _ p.1 p.2.1 p.2.2 h0.symm, ((f2 0).trans (if_neg h0.symm)).trans p.2.2⟩
 ·obtain ⟨f1, f2, f3⟩ := G.fits.wait s k v
  exact ⟨((f3 1).trans (if_neg h1.symm)).trans p.1, G.gWait _ _ _ _ _ p.1 p.2.1 p.2.2 h1.symm, (f2 0).trans p.2.2⟩
 ·obtain ⟨f1, f2, f3⟩ := G.fits.wstep s k
  exact ⟨(f3 1 h1.symm).trans p.1, G.gWstep _ _ _ _ p.1 p.2.1 p.2.2 (by omega) hw h1.symm, (f2 0).trans p.2.2⟩
theorem SB.step (G : e.Grace 3 hasv guard) (Fr : e.Fresh 3 hasv guard fresh) {r : RS e} (b : SB ops xp hasv guard fresh r) {k : Nat} (hk : k < 3) (h0 : k ≠ 0) (hx : xp ≠ 0 ∧ xp ≠ 1) (ha : r.active k) : SB ops xp hasv guard fresh (RS.step ops xp r k) := by
 have I' := b.inv.step G Fr hk hx ha
 by_cases h1 : k = 1
 ·subst h1
  have hv := b.inv.val 0 (.inr b.inn)
  obtain ⟨l1, l2⟩ := G.gLook r.s 1 0 (r.val 0) b.wt b.gd b.inn (by omega) hv.2 hv.1
  have he : e.ent r.s 1 = false := by
   cases h : e.ent r.s 1 with
   | false => rfl
   | true => have := ((b.inv.one 1).1 h).2; rw [b.wt] at this; simp at this
  have eq : RS.step ops xp r 1 = { r with s := e.wstep r.s 1, bg := fs r.bg 1 true, ev := if r.bg 1 = true then r.ev else r.ev ++ [(r.n, 1, 3, r.setOf ops 1)] } := by
   unfold RS.step
   rw [if_neg (by rw [he]; simp), if_pos b.wt, if_pos l1]
  rw [eq] at I' ⊢
  exact ⟨I', b.idx, l1, l2, ((G.fits.wstep r.s 1).2.1 0).trans b.inn⟩
 ·have p := (cloB G h0 h1).step b.inv hk hx ha ⟨b.wt, b.gd, b.inn⟩
  exact ⟨I', (step_oth (Ne.symm h1)).1.trans b.idx, p.1, p.2.1, p.2.2⟩
structure SA (ops : Ops) (xp : Nat) (hasv : e.σ → Nat → Nat → Prop) (fresh : e.σ → Nat → Nat → Prop) (me : e.σ → Nat → Nat) (v set : Nat) (r : RS e) (m : Nat) : Prop where
 inv : RInv ops xp hasv fresh 3 r
 idx : r.idx 1 = 0 ∧ r.idx 0 = 0
 wt : e.wt r.s 1 = true
 fr : fresh r.s 1 set
 ent : e.ent r.s 0 = true
 val : r.val 0 = v
 soon : me r.s 0 ≤ m
theorem SA.step (G : e.Grace 3 hasv guard) (Fr : e.Fresh 3 hasv guard fresh) {me : e.σ → Nat → Nat} (hme : ∀ s t, e.ent s t = true → 0 < me s t ∧ (e.ent (e.estep s t) t = true → me (e.estep s t) t < me s t)) {r : RS e} {v set m : Nat} (a : SA ops xp hasv fresh me v set r m) (hv : v < 64) (hs : set < 2 ^ 64) (hb : set.testBit v = true) (hx : xp ≠ 0 ∧ xp ≠ 1) :
  0 < m ∧ r.active 0 ∧ (SA ops xp hasv fresh me v set (RS.step ops xp r 0) (m - 1) ∨ ((RS.step ops xp r 0).idx 0 = 1 ∧ SB ops xp hasv guard fresh (RS.step ops xp r 0))) := by
 obtain ⟨m1, m2⟩ := hme r.s 0 a.ent
 have hs0 := a.soon
 have ha : r.active 0 := .inl a.ent
 refine ⟨by omega, ha, ?_⟩
 have I' := a.inv.step G Fr (by omega) hx ha
 have hin := ((a.inv.one 0).1 a.ent).1
 obtain ⟨f1, f2, f3⟩ := G.fits.estep r.s 0 a.ent hin
 have o := step_oth (ops := ops) (xp := xp) (r := r) (k := 0) (u := 1) (by omega)
 cases hd : e.ent (e.estep r.s 0) 0 with
 | true =>
  left
  have eq : RS.step ops xp r 0 = { r with s := e.estep r.s 0 } := by unfold RS.step; rw [if_pos a.ent, if_pos hd]
  rw [eq] at I' ⊢
  have := m2 hd
  exact ⟨I', a.idx, (f3 1).trans a.wt, Fr.estep _ _ _ _ a.fr, hd, a.val, by show me (e.estep r.s 0) 0 ≤ m - 1; omega⟩
 | false =>
  right
  have eq : RS.step ops xp r 0 = RS.next ops xp { r with s := e.estep r.s 0, ev := r.ev ++ [(r.n, 0, 1, r.val 0)] } 0 := by unfold RS.step; rw [if_pos a.ent, if_neg (by rw [hd]; simp)]
  have hin2 : e.inn (e.estep r.s 0) 0 = true := by rw [f2, if_pos rfl, hd]; rfl
  have hh : hasv (e.estep r.s 0) 0 v := by
   have := (a.inv.val 0 (.inl a.ent)).2
   rw [a.val] at this
   exact G.hStep _ _ _ _ this
  have g0 : guard (e.estep r.s 0) 1 0 := Fr.guard _ 1 set 0 v (Fr.estep _ _ _ _ a.fr) hin2 hd (by omega) hh hv hs hb
  have P : ∀ s : e.σ, PB (e := e) guard s → e.ent s 0 = false → PB (e := e) guard (RS.beg ops xp ({ r with s := s, ev := r.ev ++ [(r.n, 0, 1, r.val 0)], idx := fs r.idx 0 (r.idx 0 + 1) } : RS e) 0).s := fun s p hp => by
   unfold RS.beg
   split
   ·exact p
   ·split
    ·rename_i q; have p2 := p.2.2; rw [show e.inn s 0 = false from q.2.2] at p2; simp at p2
    ·split
     ·exact p
     ·split
      ·rename_i q; have p2 := p.2.2; rw [show e.inn s 0 = false from q.2.2] at p2; simp at p2
      ·exact p
  have p := P _ ⟨(f3 1).trans a.wt, g0, hin2⟩ hd
  have hidx : (RS.step ops xp r 0).idx 0 = 1 := by
   rw [eq]
   unfold RS.next RS.beg
   have h1 : fs r.idx 0 (r.idx 0 + 1) 0 = 1 := by rw [fs_same, a.idx.2]
   split
   ·exact h1
   ·split
    ·exact h1
    ·split
     ·exact h1
     ·split <;> exact h1
  refine ⟨hidx, I', o.1.trans a.idx.1, ?_, ?_, ?_⟩
  ·rw [eq]; exact p.1
  ·rw [eq]; exact p.2.1
  ·rw [eq]; exact p.2.2
end Go.Proofs.YtbceiadaihphaaaGreat
