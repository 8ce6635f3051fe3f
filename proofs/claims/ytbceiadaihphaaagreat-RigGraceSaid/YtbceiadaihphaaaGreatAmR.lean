/-
  The abstract machine: what a run does depends on the blocks that it notes alone.
-/
import Derived.Test.YtbceiadaihphaaaGreatAmB
import Derived.Test.YtbceiadaihphaaaGreatAmC
set_option linter.unusedSimpArgs false
set_option linter.unusedVariables false
namespace Go.Am
def Sub (a b : List Nat) : Prop := ∀ x, x ∈ a → x ∈ b
theorem Sub.refl (a : List Nat) : Sub a a := fun _ h => h
theorem Sub.trans {a b c : List Nat} (h : Sub a b) (k : Sub b c) : Sub a c := fun x hx => k x (h x hx)
theorem mem_ins {n x : Nat} {l : List Nat} : x ∈ ins n l ↔ x = n ∨ x ∈ l := by
 unfold ins
 cases h : l.any (Nat.beq n) with
 | true =>
  simp only [cond_true]
  obtain ⟨y, hy, hb⟩ := List.any_eq_true.1 h
  have := Nat.eq_of_beq_eq_true hb
  subst this
  constructor
  ·exact .inr
  ·rintro (rfl | h)
   ·exact hy
   ·exact h
 | false => simp
structure LocStep (lim n : Nat) (rd wr : List Nat) (s' : HS) : Prop where
 next : n ≤ s'.next
 rdS : Sub rd s'.rd
 wrS : Sub wr s'.wr
 rdlow : ∀ x, x ∈ s'.rd → x ∈ rd ∨ x < lim
 wrlow : ∀ x, x ∈ s'.wr → x ∈ wr ∨ x < lim
 wf : ∀ id, s'.next ≤ id → s'.heap.get id = none
def Upd (lim n' : Nat) (wr : List Nat) (h h' h2 h2' : PT ABlk) : Prop :=
 ∀ id, (h2'.get id = h'.get id ∧ (id ∈ wr ∨ (lim ≤ id ∧ id < n'))) ∨ (h2'.get id = h2.get id ∧ h'.get id = h.get id)
def Agree (lim : Nat) (rd wr : List Nat) (h h2 : PT ABlk) : Prop :=
 ∀ id b, (id ∈ rd ∨ id ∈ wr ∨ lim ≤ id) → h.get id = some b → h2.get id = some b
def Loc (lim : Nat) {α : Type} (F : HS → Res α) : Prop :=
 ∀ h n rd wr a s', F ⟨h, n, rd, wr⟩ = .ok a s' → lim ≤ n → (∀ id, n ≤ id → h.get id = none) →
  LocStep lim n rd wr s' ∧ ∀ h2, Agree lim s'.rd s'.wr h h2 → ∃ h2', F ⟨h2, n, rd, wr⟩ = .ok a ⟨h2', s'.next, s'.rd, s'.wr⟩ ∧ Upd lim s'.next s'.wr h s'.heap h2 h2'
section
variable {lim : Nat} {α β : Type}
theorem loc_ok (a : α) : Loc lim (fun s => Res.ok a s) := by
 intro h n rd wr a' s' e hl hw
 simp only [Res.ok.injEq] at e
 obtain ⟨rfl, rfl⟩ := e
 exact ⟨⟨Nat.le_refl _, .refl _, .refl _, fun x hx => .inl hx, fun x hx => .inl hx, hw⟩, fun h2 _ => ⟨h2, rfl, fun id => .inr ⟨rfl, rfl⟩⟩⟩
theorem loc_fail (w : String) : Loc lim (fun _ => (Res.fail w : Res α)) := by
 intro h n rd wr a' s' e
 simp at e
theorem loc_bnd {G : HS → Res α} {K : α → HS → Res β} (hG : Loc lim G) (hK : ∀ a, Loc lim (K a)) : Loc lim (fun s => bnd (G s) K) := by
 intro h n rd wr b s' e hl hw
 simp only [bnd] at e
 split at e
 ·rename_i a s₁ hg
  obtain ⟨p, q⟩ := hG h n rd wr a s₁ hg hl hw
  obtain ⟨p', q'⟩ := hK a s₁.heap s₁.next s₁.rd s₁.wr b s' e (Nat.le_trans hl p.next) p.wf
  refine ⟨⟨Nat.le_trans p.next p'.next, p.rdS.trans p'.rdS, p.wrS.trans p'.wrS, fun x hx => ?_, fun x hx => ?_, p'.wf⟩, fun h2 hag => ?_⟩
  ·rcases p'.rdlow x hx with hx | hx
   ·exact p.rdlow x hx
   ·exact .inr hx
  ·rcases p'.wrlow x hx with hx | hx
   ·exact p.wrlow x hx
   ·exact .inr hx
  ·obtain ⟨h3, e3, u3⟩ := q h2 (fun id b hid hb => hag id b (hid.imp (p'.rdS id) (Or.imp (p'.wrS id) fun q => q)) hb)
   obtain ⟨h4, e4, u4⟩ := q' h3 (fun id b hid hb => by
    rcases u3 id with ⟨u, _⟩ | ⟨u, u'⟩
    ·rw [u]; exact hb
    ·rw [u]; exact hag id b hid (by rw [← u']; exact hb))
   refine ⟨h4, ?_, fun id => ?_⟩
   ·simp only [bnd, e3, e4]
   ·rcases u4 id with ⟨u, hid⟩ | ⟨u, u'⟩
    ·exact .inl ⟨u, hid⟩
    ·rcases u3 id with ⟨v, hid⟩ | ⟨v, v'⟩
     ·refine .inl ⟨by rw [u, v, u'], ?_⟩
      rcases hid with hid | ⟨h5, h6⟩
      ·exact .inl (p'.wrS id hid)
      ·exact .inr ⟨h5, Nat.lt_of_lt_of_le h6 p'.next⟩
     ·exact .inr ⟨by rw [u, v], by rw [u', v']⟩
 ·simp at e
theorem loc_ap : ∀ (m : AP α), Loc lim (m.run lim)
 | .pure a => loc_ok a
 | .fail w => by intro h n rd wr a' s' e; simp [AP.run] at e
 | .get id k => by
  intro h n rd wr a s' e hl hw
  simp only [AP.run] at e
  split at e
  ·simp at e
  ·rename_i b hb
   have main : ∀ rd', Sub rd rd' → (∀ x, x ∈ rd' → x ∈ rd ∨ x < lim) → (id ∈ rd' ∨ lim ≤ id) → (k b).run lim ⟨h, n, rd', wr⟩ = .ok a s' →
     (∀ h2 : PT ABlk, h2.get id = some b → ((AP.get id k).run lim ⟨h2, n, rd, wr⟩ = (k b).run lim ⟨h2, n, rd', wr⟩)) →
     LocStep lim n rd wr s' ∧ ∀ h2, Agree lim s'.rd s'.wr h h2 → ∃ h2', (AP.get id k).run lim ⟨h2, n, rd, wr⟩ = .ok a ⟨h2', s'.next, s'.rd, s'.wr⟩ ∧ Upd lim s'.next s'.wr h s'.heap h2 h2' := by
    intro rd' hsub hlow hin he hrun
    obtain ⟨p, q⟩ := loc_ap (k b) h n rd' wr a s' he hl hw
    refine ⟨⟨p.next, hsub.trans p.rdS, p.wrS, fun x hx => ?_, p.wrlow, p.wf⟩, fun h2 hag => ?_⟩
    ·rcases p.rdlow x hx with hx | hx
     ·exact hlow x hx
     ·exact .inr hx
    ·obtain ⟨h3, e3, u3⟩ := q h2 hag
     refine ⟨h3, ?_, u3⟩
     rw [hrun h2 (hag id b (by
      rcases hin with hin | hin
      ·exact .inl (p.rdS id hin)
      ·exact .inr (.inr hin)) hb)]
     exact e3
   cases hbl : Nat.blt id lim with
   | true =>
    rw [hbl] at e
    have hlt : id < lim := Nat.blt_eq.mp hbl
    refine main (ins id rd) (fun x hx => mem_ins.2 (.inr hx)) (fun x hx => ?_) (.inl (mem_ins.2 (.inl rfl))) e (fun h2 h2b => by simp only [AP.run, h2b, hbl, cond_true])
    rcases mem_ins.1 hx with rfl | hx
    ·exact .inr hlt
    ·exact .inl hx
   | false =>
    rw [hbl] at e
    have hlt : ¬ id < lim := fun hlt => by rw [Nat.blt_eq.mpr hlt] at hbl; exact Bool.noConfusion hbl
    exact main rd (.refl _) (fun x hx => .inl hx) (.inr (by omega)) e (fun h2 h2b => by simp only [AP.run, h2b, hbl, cond_false])
 | .new b k => by
  intro h n rd wr a s' e hl hw
  simp only [AP.run] at e
  obtain ⟨p, q⟩ := loc_ap (k n) (h.set n (some b)) (n + 1) rd wr a s' e (by omega) (fun id hid => by rw [PT.get_set_ne _ _ (by omega)]; exact hw id (by omega))
  have hn : n + 1 ≤ s'.next := p.next
  refine ⟨⟨by omega, p.rdS, p.wrS, p.rdlow, p.wrlow, p.wf⟩, fun h2 hag => ?_⟩
  obtain ⟨h3, e3, u3⟩ := q (h2.set n (some b)) (fun id c hid hc => by
   rw [PT.get_set] at hc ⊢
   by_cases hin : id = n
   ·rw [if_pos hin] at hc ⊢; exact hc
   ·rw [if_neg hin] at hc ⊢; exact hag id c hid hc)
  refine ⟨h3, e3, fun id => ?_⟩
  rcases u3 id with ⟨u, hid⟩ | ⟨u, u'⟩
  ·exact .inl ⟨u, hid⟩
  ·rw [PT.get_set] at u u'
   by_cases hin : id = n
   ·rw [if_pos hin] at u u'
    exact .inl ⟨by rw [u, u'], .inr ⟨by omega, by omega⟩⟩
   ·rw [if_neg hin] at u u'
    exact .inr ⟨u, u'⟩
 | .set id B k => by
  intro h n rd wr a s' e hl hw
  simp only [AP.run] at e
  split at e
  ·simp at e
  ·rename_i b hb
   have hidn : id < n := by
    rcases Nat.lt_or_ge id n with hh | hh
    ·exact hh
    ·rw [hw id hh] at hb; simp at hb
   have main : ∀ wr', Sub wr wr' → (∀ x, x ∈ wr' → x ∈ wr ∨ x < lim) → (id ∈ wr' ∨ lim ≤ id) → k.run lim ⟨h.set id (some B), n, rd, wr'⟩ = .ok a s' →
     (∀ (h2 : PT ABlk) c, h2.get id = some c → ((AP.set id B k).run lim ⟨h2, n, rd, wr⟩ = k.run lim ⟨h2.set id (some B), n, rd, wr'⟩)) →
     LocStep lim n rd wr s' ∧ ∀ h2, Agree lim s'.rd s'.wr h h2 → ∃ h2', (AP.set id B k).run lim ⟨h2, n, rd, wr⟩ = .ok a ⟨h2', s'.next, s'.rd, s'.wr⟩ ∧ Upd lim s'.next s'.wr h s'.heap h2 h2' := by
    intro wr' hsub hlow hin he hrun
    obtain ⟨p, q⟩ := loc_ap k (h.set id (some B)) n rd wr' a s' he hl (fun x hx => by rw [PT.get_set_ne _ _ (by omega)]; exact hw x hx)
    have hin' : id ∈ s'.wr ∨ lim ≤ id := hin.imp (p.wrS id) _root_.id
    refine ⟨⟨p.next, p.rdS, hsub.trans p.wrS, p.rdlow, fun x hx => ?_, p.wf⟩, fun h2 hag => ?_⟩
    ·rcases p.wrlow x hx with hx | hx
     ·exact hlow x hx
     ·exact .inr hx
    ·have h2b := hag id b (.inr hin') hb
     obtain ⟨h3, e3, u3⟩ := q (h2.set id (some B)) (fun x c hx hc => by
      rw [PT.get_set] at hc ⊢
      by_cases hxi : x = id
      ·rw [if_pos hxi] at hc ⊢; exact hc
      ·rw [if_neg hxi] at hc ⊢; exact hag x c hx hc)
     refine ⟨h3, by rw [hrun h2 b h2b]; exact e3, fun x => ?_⟩
     rcases u3 x with ⟨u, hx⟩ | ⟨u, u'⟩
     ·exact .inl ⟨u, hx⟩
     ·rw [PT.get_set] at u u'
      by_cases hxi : x = id
      ·rw [if_pos hxi] at u u'
       refine .inl ⟨by rw [u, u'], ?_⟩
       rw [hxi]
       rcases hin' with h1 | h1
       ·exact .inl h1
       ·exact .inr ⟨h1, Nat.lt_of_lt_of_le hidn p.next⟩
      ·rw [if_neg hxi] at u u'
       exact .inr ⟨u, u'⟩
   cases hbl : Nat.blt id lim with
   | true =>
    rw [hbl] at e
    have hlt : id < lim := Nat.blt_eq.mp hbl
    refine main (ins id wr) (fun x hx => mem_ins.2 (.inr hx)) (fun x hx => ?_) (.inl (mem_ins.2 (.inl rfl))) e (fun h2 c h2b => by simp only [AP.run, h2b, hbl, cond_true])
    rcases mem_ins.1 hx with rfl | hx
    ·exact .inr hlt
    ·exact .inl hx
   | false =>
    rw [hbl] at e
    have hlt : ¬ id < lim := fun hlt => by rw [Nat.blt_eq.mpr hlt] at hbl; exact Bool.noConfusion hbl
    exact main wr (.refl _) (fun x hx => .inl hx) (.inr (by omega)) e (fun h2 c h2b => by simp only [AP.run, h2b, hbl, cond_false])
 | .kill id k => by
  intro h n rd wr a s' e hl hw
  simp only [AP.run] at e
  split at e
  ·simp at e
  ·rename_i b hb
   have hidn : id < n := by
    rcases Nat.lt_or_ge id n with hh | hh
    ·exact hh
    ·rw [hw id hh] at hb; simp at hb
   have main : ∀ wr', Sub wr wr' → (∀ x, x ∈ wr' → x ∈ wr ∨ x < lim) → (id ∈ wr' ∨ lim ≤ id) → k.run lim ⟨h.set id none, n, rd, wr'⟩ = .ok a s' →
     (∀ (h2 : PT ABlk) c, h2.get id = some c → ((AP.kill id k).run lim ⟨h2, n, rd, wr⟩ = k.run lim ⟨h2.set id none, n, rd, wr'⟩)) →
     LocStep lim n rd wr s' ∧ ∀ h2, Agree lim s'.rd s'.wr h h2 → ∃ h2', (AP.kill id k).run lim ⟨h2, n, rd, wr⟩ = .ok a ⟨h2', s'.next, s'.rd, s'.wr⟩ ∧ Upd lim s'.next s'.wr h s'.heap h2 h2' := by
    intro wr' hsub hlow hin he hrun
    obtain ⟨p, q⟩ := loc_ap k (h.set id none) n rd wr' a s' he hl (fun x hx => by rw [PT.get_set_ne _ _ (by omega)]; exact hw x hx)
    have hin' : id ∈ s'.wr ∨ lim ≤ id := hin.imp (p.wrS id) _root_.id
    refine ⟨⟨p.next, p.rdS, hsub.trans p.wrS, p.rdlow, fun x hx => ?_, p.wf⟩, fun h2 hag => ?_⟩
    ·rcases p.wrlow x hx with hx | hx
     ·exact hlow x hx
     ·exact .inr hx
    ·have h2b := hag id b (.inr hin') hb
     obtain ⟨h3, e3, u3⟩ := q (h2.set id none) (fun x c hx hc => by
      rw [PT.get_set] at hc ⊢
      by_cases hxi : x = id
      ·rw [if_pos hxi] at hc ⊢; exact hc
      ·rw [if_neg hxi] at hc ⊢; exact hag x c hx hc)
     refine ⟨h3, by rw [hrun h2 b h2b]; exact e3, fun x => ?_⟩
     rcases u3 x with ⟨u, hx⟩ | ⟨u, u'⟩
     ·exact .inl ⟨u, hx⟩
     ·rw [PT.get_set] at u u'
      by_cases hxi : x = id
      ·rw [if_pos hxi] at u u'
       refine .inl ⟨by rw [u, u'], ?_⟩
       rw [hxi]
       rcases hin' with h1 | h1
       ·exact .inl h1
       ·exact .inr ⟨h1, Nat.lt_of_lt_of_le hidn p.next⟩
      ·rw [if_neg hxi] at u u'
       exact .inr ⟨u, u'⟩
   cases hbl : Nat.blt id lim with
   | true =>
    rw [hbl] at e
    have hlt : id < lim := Nat.blt_eq.mp hbl
    refine main (ins id wr) (fun x hx => mem_ins.2 (.inr hx)) (fun x hx => ?_) (.inl (mem_ins.2 (.inl rfl))) e (fun h2 c h2b => by simp only [AP.run, h2b, hbl, cond_true])
    rcases mem_ins.1 hx with rfl | hx
    ·exact .inr hlt
    ·exact .inl hx
   | false =>
    rw [hbl] at e
    have hlt : ¬ id < lim := fun hlt => by rw [Nat.blt_eq.mpr hlt] at hbl; exact Bool.noConfusion hbl
    exact main wr (.refl _) (fun x hx => .inl hx) (.inr (by omega)) e (fun h2 c h2b => by simp only [AP.run, h2b, hbl, cond_false])
end
def LocE (ev : EvT) : Prop := ∀ ro lim c m, Loc lim (ev ro lim c m)
section
variable {P : Program} {O : Over} {ev : EvT} {lim : Nat}
theorem loc_cond {α : Type} {b : Bool} {F G : HS → Res α} (hF : Loc lim F) (hG : Loc lim G) : Loc lim (fun s => cond b (F s) (G s)) := by
 cases b
 ·exact hG
 ·exact hF
theorem loc_results (m : Tm) : ∀ rs, Loc lim (resultsA P lim m rs)
 | [] => loc_ok _
 | .tmp t :: r => loc_bnd (K := fun l s => .ok (m.get t :: l) s) (loc_results m r) fun l => loc_ok _
 | .cell a t :: r => loc_bnd (loc_ap _) fun v => loc_bnd (K := fun l s => .ok (v :: l) s) (loc_results m r) fun l => loc_ok _
theorem loc_takeDfs : ∀ ds, Loc lim (takeDfs lim ds)
 | [] => loc_ok _
 | d :: r => loc_bnd (loc_ap _) fun _ => loc_takeDfs r
theorem loc_after (rs : List ResultVar) (x : AExit × Tm) : Loc lim (afterA P lim rs x) := by
 unfold afterA
 cases x.1 with
 | exit => exact loc_fail _
 | normal => exact loc_bnd (loc_takeDfs _) fun _ => loc_bnd (K := fun l s => .ok (oneOf l) s) (loc_results _ _) fun l => loc_ok _
 | ret => exact loc_bnd (loc_takeDfs _) fun _ => loc_bnd (K := fun l s => .ok (oneOf l) s) (loc_results _ _) fun l => loc_ok _
theorem loc_body (hev : LocE ev) (f : FuncId) (args : List Value) : Loc lim (bodyA P ev lim f args) := by
 unfold bodyA
 cases P.funcs[f]? with
 | none => exact loc_fail _
 | some fn =>
  dsimp only
  cases fn.body with
  | none => exact loc_fail _
  | some c => exact loc_bnd (hev _ _ _ _) fun x => loc_after _ _
theorem loc_call (hev : LocE ev) (f : FuncId) (args : List Value) : Loc lim (callA P O ev lim f args) := by
 unfold callA
 cases O f args with
 | none => exact loc_body hev f args
 | some m => exact loc_ap m
theorem loc_round (hev : LocE ev) (l : Nat) (m : Tm) (as bd : Code) : Loc lim (roundA ev lim l m as bd) := by
 unfold roundA
 refine loc_bnd (hev _ _ _ _) fun x => ?_
 cases x.1 with
 | normal => exact loc_bnd (loc_ap _) fun _ => loc_bnd (hev _ _ _ _) fun y => loc_ap _
 | _ => exact loc_fail _
theorem loc_next (hev : LocE ev) (x : ANext) : Loc lim (nextA P O ev lim x) := by
 unfold nextA
 cases x with
 | value v => exact loc_ok _
 | skip => exact loc_ok _
 | enter f args => exact loc_call hev f args
 | round l m as bd => exact loc_round hev l m as bd
theorem loc_val (hev : LocE ev) (ρ : Operand → Value) (o : Oper) : Loc lim (valA P O ev lim ρ o) := by
 unfold valA
 exact loc_cond (loc_bnd (loc_ap _) fun x => loc_next hev x) (loc_fail _)
theorem loc_put (m : Tm) (d : Option Nat) (v : Value) : Loc lim (putA m d v) := by
 unfold putA
 cases m.put d v with
 | none => exact loc_fail _
 | some m => exact loc_ok _
theorem loc_op (hev : LocE ev) (ops : List Oper) (o : Oper) (m : Tm) : Loc lim (opA P O ev lim ops o m) := by
 unfold opA
 exact loc_bnd (loc_cond (loc_val hev _ _) (loc_ok _)) fun v => loc_put _ _ _
theorem loc_ops (hev : LocE ev) (ops : List Oper) : ∀ r m, Loc lim (opsA P O ev lim ops r m)
 | [], m => loc_ok _
 | o :: r, m => loc_bnd (loc_op hev ops o m) fun m => loc_ops hev ops r m
theorem mem_below : ∀ (l acc : List Nat) (x : Nat), x ∈ below lim l acc ↔ (x ∈ l ∧ x < lim) ∨ x ∈ acc
 | [], acc, x => by simp [below]
 | y :: l, acc, x => by
  rw [below, mem_below l]
  cases h : Nat.blt y lim with
  | true =>
   have hlt : y < lim := Nat.blt_eq.mp h
   simp only [cond_true, mem_ins, List.mem_cons]
   constructor
   ·rintro (⟨h1, h2⟩ | rfl | h1)
    ·exact .inl ⟨.inr h1, h2⟩
    ·exact .inl ⟨.inl rfl, hlt⟩
    ·exact .inr h1
   ·rintro (⟨rfl | h1, h2⟩ | h1)
    ·exact .inr (.inl rfl)
    ·exact .inl ⟨h1, h2⟩
    ·exact .inr (.inr h1)
  | false =>
   have hlt : ¬ y < lim := fun hlt => by rw [Nat.blt_eq.mpr hlt] at h; exact Bool.noConfusion h
   simp only [cond_false, List.mem_cons]
   constructor
   ·rintro (⟨h1, h2⟩ | h1)
    ·exact .inl ⟨.inr h1, h2⟩
    ·exact .inr h1
   ·rintro (⟨rfl | h1, h2⟩ | h1)
    ·exact absurd h2 hlt
    ·exact .inl ⟨h1, h2⟩
    ·exact .inr h1
theorem merge_spec : ∀ (fs : List Foot) (s : HS), (mergeFoots lim fs s).heap = s.heap ∧ (mergeFoots lim fs s).next = s.next ∧
  (∀ x, x ∈ (mergeFoots lim fs s).rd ↔ (∃ f ∈ fs, x ∈ f.rd ∧ x < lim) ∨ x ∈ s.rd) ∧ (∀ x, x ∈ (mergeFoots lim fs s).wr ↔ (∃ f ∈ fs, x ∈ f.wr ∧ x < lim) ∨ x ∈ s.wr)
 | [], s => by simp [mergeFoots]
 | f :: fs, s => by
  obtain ⟨h1, h2, h3, h4⟩ := merge_spec fs { s with rd := below lim f.rd s.rd, wr := below lim f.wr s.wr }
  refine ⟨h1, h2, fun x => ?_, fun x => ?_⟩
  ·rw [mergeFoots, h3, mem_below]
   constructor
   ·rintro (⟨g, hg, hx⟩ | hx | hx)
    ·exact .inl ⟨g, List.mem_cons_of_mem _ hg, hx⟩
    ·exact .inl ⟨f, List.mem_cons_self, hx⟩
    ·exact .inr hx
   ·rintro (⟨g, hg, hx⟩ | hx)
    ·rcases List.mem_cons.1 hg with rfl | hg
     ·exact .inr (.inl hx)
     ·exact .inl ⟨g, hg, hx⟩
    ·exact .inr (.inr hx)
  ·rw [mergeFoots, h4, mem_below]
   constructor
   ·rintro (⟨g, hg, hx⟩ | hx | hx)
    ·exact .inl ⟨g, List.mem_cons_of_mem _ hg, hx⟩
    ·exact .inl ⟨f, List.mem_cons_self, hx⟩
    ·exact .inr hx
   ·rintro (⟨g, hg, hx⟩ | hx)
    ·rcases List.mem_cons.1 hg with rfl | hg
     ·exact .inr (.inl hx)
     ·exact .inl ⟨g, hg, hx⟩
    ·exact .inr (.inr hx)
theorem loc_opsF (hev : LocE ev) (ops : List Oper) : ∀ (r : List Oper) (m : Tm) (h : PT ABlk) (n : Nat) (x : Tm × List Foot) (s' : HS), opsF P O ev ops r m h n = .ok x s' → (∀ id, n ≤ id → h.get id = none) →
  n ≤ s'.next ∧ (∀ id, s'.next ≤ id → s'.heap.get id = none) ∧ s'.rd = [] ∧ s'.wr = [] ∧ (∀ f ∈ x.2, n ≤ f.lo ∧ f.hi ≤ s'.next ∧ (∀ y, y ∈ f.rd → y < f.lo) ∧ (∀ y, y ∈ f.wr → y < f.lo) ∧ f.lo ≤ f.hi) ∧
  ∀ h2, (∀ id b, ((∃ f ∈ x.2, id ∈ f.rd ∨ id ∈ f.wr) ∨ n ≤ id) → h.get id = some b → h2.get id = some b) →
   ∃ h2', opsF P O ev ops r m h2 n = .ok x ⟨h2', s'.next, [], []⟩ ∧
    ∀ id, (h2'.get id = s'.heap.get id ∧ ((∃ f ∈ x.2, id ∈ f.wr) ∨ (n ≤ id ∧ id < s'.next))) ∨ (h2'.get id = h2.get id ∧ s'.heap.get id = h.get id)
 | [], m, h, n, x, s', e, hw => by
  simp only [opsF, Res.ok.injEq] at e
  obtain ⟨rfl, rfl⟩ := e
  exact ⟨Nat.le_refl _, hw, rfl, rfl, fun f hf => by simp at hf, fun h2 _ => ⟨h2, rfl, fun id => .inr ⟨rfl, rfl⟩⟩⟩
 | o :: r, m, h, n, x, s', e, hw => by
  simp only [opsF] at e
  cases h1 : opA P O ev n ops o m ⟨h, n, [], []⟩ with
  | fail w => simp [bnd, h1] at e
  | ok m₁ s₁ =>
   simp only [bnd, h1] at e
   cases h2 : opsF P O ev ops r m₁ s₁.heap s₁.next with
   | fail w => simp [h2] at e
   | ok x₁ s₂ =>
    simp only [h2, Res.ok.injEq] at e
    obtain ⟨rfl, rfl⟩ := e
    obtain ⟨p, q⟩ := loc_op (P := P) (lim := n) hev ops o m h n [] [] m₁ s₁ h1 (Nat.le_refl _) hw
    obtain ⟨g1, g2, g3, g4, g5, g6⟩ := loc_opsF hev ops r m₁ s₁.heap s₁.next x₁ s₂ h2 p.wf
    have plo : ∀ y, y ∈ s₁.rd → y < n := fun y hy => (p.rdlow y hy).resolve_left (by simp)
    have plo' : ∀ y, y ∈ s₁.wr → y < n := fun y hy => (p.wrlow y hy).resolve_left (by simp)
    have pn := p.next
    refine ⟨Nat.le_trans pn g1, g2, g3, g4, ?_, fun k hk => ?_⟩
    ·intro f hf
     rcases List.mem_cons.1 hf with rfl | hf
     ·exact ⟨Nat.le_refl _, g1, plo, plo', pn⟩
     ·obtain ⟨k1, k2, k3, k4, k5⟩ := g5 f hf
      exact ⟨Nat.le_trans pn k1, k2, k3, k4, k5⟩
    ·obtain ⟨k1, e1, u1⟩ := q k (fun id b hid hb => hk id b (by
      rcases hid with hid | hid | hid
      ·exact .inl ⟨_, List.mem_cons_self, .inl hid⟩
      ·exact .inl ⟨_, List.mem_cons_self, .inr hid⟩
      ·exact .inr hid) hb)
     obtain ⟨k2, e2, u2⟩ := g6 k1 (fun id b hid hb => by
      rcases u1 id with ⟨u, _⟩ | ⟨u, u'⟩
      ·rw [u]; exact hb
      ·rw [u]
       refine hk id b ?_ (by rw [← u']; exact hb)
       rcases hid with ⟨f, hf, hid⟩ | hid
       ·exact .inl ⟨f, List.mem_cons_of_mem _ hf, hid⟩
       ·exact .inr (Nat.le_trans pn hid))
     refine ⟨k2, ?_, fun id => ?_⟩
     ·simp only [opsF, bnd, e1, e2, g3, g4]
     ·rcases u2 id with ⟨u, hid⟩ | ⟨u, u'⟩
      ·refine .inl ⟨u, ?_⟩
       rcases hid with ⟨f, hf, hid⟩ | ⟨h3, h4⟩
       ·exact .inl ⟨f, List.mem_cons_of_mem _ hf, hid⟩
       ·exact .inr ⟨Nat.le_trans pn h3, h4⟩
      ·rcases u1 id with ⟨v, hid⟩ | ⟨v, v'⟩
       ·refine .inl ⟨by rw [u, v, u'], ?_⟩
        rcases hid with hid | ⟨h3, h4⟩
        ·exact .inl ⟨_, List.mem_cons_self, hid⟩
        ·exact .inr ⟨h3, Nat.lt_of_lt_of_le h4 g1⟩
       ·exact .inr ⟨by rw [u, v], by rw [u', v']⟩
theorem loc_draw (hev : LocE ev) (ops : List Oper) (m : Tm) : Loc lim (drawA P O ev lim ops m) := by
 intro h n rd wr a s' e hl hw
 simp only [drawA] at e
 cases hd : drawOk ops (loosePairs (ancestors [] ops) ops.length) with
 | false => simp [hd] at e
 | true =>
  simp only [hd, cond_true] at e
  cases hf : opsF P O ev ops ops m h n with
  | fail w => simp [bnd, hf] at e
  | ok x s₁ =>
   simp only [bnd, hf] at e
   cases hk : footsOk x.2 (loosePairs (ancestors [] ops) ops.length) with
   | false => simp [hk] at e
   | true =>
    simp only [hk, cond_true] at e
    obtain ⟨g1, g2, g3, g4, g5, g6⟩ := loc_opsF hev ops ops m h n x s₁ hf hw
    -- the state at the end, whatever the limit
    have key : ∀ h₀ : PT ABlk, ∃ sF : HS, (cond (Nat.beq lim 0) (⟨h₀, s₁.next, rd, wr⟩ : HS) (mergeFoots lim x.2 ⟨h₀, s₁.next, rd, wr⟩)) = sF ∧ sF.heap = h₀ ∧ sF.next = s₁.next ∧
      (∀ y, y ∈ sF.rd ↔ (∃ f ∈ x.2, y ∈ f.rd ∧ y < lim) ∨ y ∈ rd) ∧ (∀ y, y ∈ sF.wr ↔ (∃ f ∈ x.2, y ∈ f.wr ∧ y < lim) ∨ y ∈ wr) := by
     intro h₀
     refine ⟨_, rfl, ?_⟩
     cases hz : Nat.beq lim 0 with
     | true =>
      have := Nat.eq_of_beq_eq_true hz
      subst this
      simp
     | false =>
      obtain ⟨m1, m2, m3, m4⟩ := merge_spec (lim := lim) x.2 ⟨h₀, s₁.next, rd, wr⟩
      exact ⟨m1, m2, m3, m4⟩
    have same : ∀ h₀ h₁ : PT ABlk, (mergeFoots lim x.2 ⟨h₀, s₁.next, rd, wr⟩).rd = (mergeFoots lim x.2 ⟨h₁, s₁.next, rd, wr⟩).rd ∧ (mergeFoots lim x.2 ⟨h₀, s₁.next, rd, wr⟩).wr = (mergeFoots lim x.2 ⟨h₁, s₁.next, rd, wr⟩).wr := by
     intro h₀ h₁
     have gen : ∀ (fs : List Foot) (r q : List Nat), (mergeFoots lim fs ⟨h₀, s₁.next, r, q⟩).rd = (mergeFoots lim fs ⟨h₁, s₁.next, r, q⟩).rd ∧ (mergeFoots lim fs ⟨h₀, s₁.next, r, q⟩).wr = (mergeFoots lim fs ⟨h₁, s₁.next, r, q⟩).wr := by
      intro fs
      induction fs with
      | nil => exact fun r q => ⟨rfl, rfl⟩
      | cons f fs ih => exact fun r q => ih _ _
     exact gen _ _ _
    obtain ⟨sF, hs, k1, k2, k3, k4⟩ := key s₁.heap
    rw [hs] at e
    simp only [Res.ok.injEq] at e
    obtain ⟨rfl, rfl⟩ := e
    refine ⟨⟨by rw [k2]; exact g1, fun y hy => (k3 y).2 (.inr hy), fun y hy => (k4 y).2 (.inr hy), fun y hy => ?_, fun y hy => ?_, by rw [k1, k2]; exact g2⟩, fun h2 hag => ?_⟩
    ·rcases (k3 y).1 hy with ⟨f, _, _, hlt⟩ | hy
     ·exact .inr hlt
     ·exact .inl hy
    ·rcases (k4 y).1 hy with ⟨f, _, _, hlt⟩ | hy
     ·exact .inr hlt
     ·exact .inl hy
    ·obtain ⟨h3, e3, u3⟩ := g6 h2 (fun id b hid hb => hag id b (by
      rcases hid with ⟨f, hf, hid | hid⟩ | hid
      ·by_cases hlt : id < lim
       ·exact .inl ((k3 id).2 (.inl ⟨f, hf, hid, hlt⟩))
       ·exact .inr (.inr (by omega))
      ·by_cases hlt : id < lim
       ·exact .inr (.inl ((k4 id).2 (.inl ⟨f, hf, hid, hlt⟩)))
       ·exact .inr (.inr (by omega))
      ·exact .inr (.inr (by omega))) hb)
     obtain ⟨sG, hs2, j1, j2, j3, j4⟩ := key h3
     have hsame : sG = ⟨h3, sF.next, sF.rd, sF.wr⟩ := by
      have q1 : sG.rd = sF.rd := by
       rw [← hs, ← hs2]
       cases Nat.beq lim 0
       ·exact (same h3 s₁.heap).1
       ·rfl
      have q2 : sG.wr = sF.wr := by
       rw [← hs, ← hs2]
       cases Nat.beq lim 0
       ·exact (same h3 s₁.heap).2
       ·rfl
      cases sG
      simp only at j1 j2 q1 q2
      subst j1 j2 q1 q2
      rw [k2]
     refine ⟨h3, ?_, fun id => ?_⟩
     ·simp only [drawA, hd, cond_true, bnd, e3, hk]
      rw [hs2, hsame]
     ·rw [k1, k2]
      rcases u3 id with ⟨u, hid⟩ | hid
      ·refine .inl ⟨u, ?_⟩
       rcases hid with ⟨f, hf, hid⟩ | ⟨h5, h6⟩
       ·by_cases hlt : id < lim
        ·exact .inl ((k4 id).2 (.inl ⟨f, hf, hid, hlt⟩))
        ·obtain ⟨q1, q2, q3, q4, q5⟩ := g5 f hf
         have := q4 id hid
         exact .inr ⟨by omega, by omega⟩
       ·exact .inr ⟨by omega, h6⟩
      ·exact .inr hid
theorem loc_range (hev : LocE ev) (ro : Option Nat) (g : Operand) (ps : List Tmp) (assign body : Code) (m : Tm) : Loc lim (rangeA P O ev ro lim g ps assign body m) := by
 unfold rangeA
 exact loc_cond (loc_bnd (loc_ap _) fun ld => loc_bnd (loc_ap _) fun fa => loc_bnd (loc_call hev _ _) fun _ => loc_bnd (K := fun x s => .ok (x, { m with dfs := ld.2 }) s) (loc_ap _) fun x => loc_ok _) (loc_fail _)
theorem loc_step (hev : LocE ev) : LocE (stepC P O ev) := by
 intro ro lim c m
 unfold stepC
 cases c with
 | skip => exact loc_ok _
 | region id ops draw => exact loc_bnd (K := fun m s => .ok (AExit.normal, m) s) (loc_cond (loc_draw hev _ _) (loc_ops hev _ _ _)) fun m => loc_ok _
 | seq a b =>
  refine loc_bnd (hev _ _ _ _) fun x => ?_
  cases x.1 with
  | normal => exact hev _ _ _ _
  | _ => exact loc_ok _
 | cond c a b =>
  refine loc_cond ?_ (loc_fail _)
  split
  ·exact hev _ _ _ _
  ·exact hev _ _ _ _
  ·exact loc_fail _
 | block id c =>
  refine loc_bnd (hev _ _ _ _) fun x => ?_
  cases x.1 with
  | exit => exact loc_ok _
  | _ => exact loc_ok _
 | loop c =>
  refine loc_bnd (hev _ _ _ _) fun x => ?_
  cases x.1 with
  | normal => exact hev _ _ _ _
  | _ => exact loc_ok _
 | rangeFunc g ps assign body => exact loc_range hev _ _ _ _ _ _
 | exit id => exact loc_ok _
 | scope c => exact hev _ _ _ _
 | label l => exact loc_ok _
 | goto l => exact loc_fail _
 | ret => exact loc_ok _
 | refuse w => exact loc_fail _
theorem loc_ev : ∀ n, LocE (evC P O n)
 | 0 => fun ro lim c m => loc_fail _
 | n + 1 => loc_step (loc_ev n)
end
end Go.Am
