/-
  A part of the proof: contracts of inner functions.
-/
import Derived.Test.YtbceiadaihphaaaGreatAmX3
/-
 The abstract machine, for proofs with variables: regions that draw their order; every access is noted.
-/
set_option linter.unusedSimpArgs false
set_option linter.unusedVariables false
namespace Go.Am
def AP.note {α : Type} : AP α → HS → Res α
 | .pure a, s => .ok a s
 | .fail why, _ => .fail why
 | .get id k, s => match s.heap.get id with
  | none => .fail "get"
  | some b => (k b).note { s with rd := id :: s.rd }
 | .set id b k, s => match s.heap.get id with
  | none => .fail "set"
  | some _ => k.note { s with heap := s.heap.set id (some b), wr := id :: s.wr }
 | .kill id k, s => match s.heap.get id with
  | none => .fail "kill"
  | some _ => k.note { s with heap := s.heap.set id none, wr := id :: s.wr }
 | .new b k, s => (k s.next).note { s with heap := s.heap.set s.next (some b), next := Nat.succ s.next }
theorem mem_ins_note {id : Nat} {l l' : List Nat} (hl : ∀ i ∈ l, i ∈ l') {i : Nat} (hi : i ∈ cond true (ins id l) l) : i ∈ id :: l' := by
 simp only [cond_true, ins] at hi
 cases ha : l.any (Nat.beq id) with
 | true => rw [ha] at hi; exact List.mem_cons_of_mem _ (hl i hi)
 | false =>
  rw [ha] at hi
  rcases List.mem_cons.1 hi with rfl | hi
  ·exact List.mem_cons_self
  ·exact List.mem_cons_of_mem _ (hl i hi)
theorem note_run {α : Type} (lim : Nat) : ∀ (p : AP α) (s : HS) (a : α) (s' : HS), p.note s = .ok a s' → ∀ rd wr, (∀ i ∈ rd, i ∈ s.rd) → (∀ i ∈ wr, i ∈ s.wr) →
  ∃ rd' wr', p.run lim ⟨s.heap, s.next, rd, wr⟩ = .ok a ⟨s'.heap, s'.next, rd', wr'⟩ ∧ (∀ i ∈ rd', i ∈ s'.rd) ∧ (∀ i ∈ wr', i ∈ s'.wr)
 | .pure a, s, b, s', e, rd, wr, h1, h2 => by
  simp only [AP.note, Res.ok.injEq] at e
  obtain ⟨rfl, rfl⟩ := e
  exact ⟨rd, wr, rfl, h1, h2⟩
 | .fail w, s, b, s', e, rd, wr, h1, h2 => by simp [AP.note] at e
 | .get id k, s, b, s', e, rd, wr, h1, h2 => by
  simp only [AP.note] at e
  cases hb : s.heap.get id with
  | none => rw [hb] at e; simp at e
  | some B =>
   rw [hb] at e
   simp only at e
   have := note_run lim (k B) _ b s' e (cond (Nat.blt id lim) (ins id rd) rd) wr (fun i hi => ?_) h2
   ·obtain ⟨rd', wr', q, q1, q2⟩ := this
    refine ⟨rd', wr', ?_, q1, q2⟩
    simp only [AP.run, hb]
    cases hl : Nat.blt id lim <;> simp only [hl, cond_true, cond_false] at q ⊢ <;> exact q
   ·cases hl : Nat.blt id lim with
    | false => rw [hl] at hi; exact List.mem_cons_of_mem _ (h1 i hi)
    | true =>
     rw [hl] at hi
     exact mem_ins_note h1 hi
 | .set id c k, s, b, s', e, rd, wr, h1, h2 => by
  simp only [AP.note] at e
  cases hb : s.heap.get id with
  | none => rw [hb] at e; simp at e
  | some B =>
   rw [hb] at e
   simp only at e
   have := note_run lim k _ b s' e rd (cond (Nat.blt id lim) (ins id wr) wr) h1 (fun i hi => ?_)
   ·obtain ⟨rd', wr', q, q1, q2⟩ := this
    refine ⟨rd', wr', ?_, q1, q2⟩
    simp only [AP.run, hb]
    cases hl : Nat.blt id lim <;> simp only [hl, cond_true, cond_false] at q ⊢ <;> exact q
   ·cases hl : Nat.blt id lim with
    | false => rw [hl] at hi; exact List.mem_cons_of_mem _ (h2 i hi)
    | true =>
     rw [hl] at hi
     exact mem_ins_note h2 hi
 | .kill id k, s, b, s', e, rd, wr, h1, h2 => by
  simp only [AP.note] at e
  cases hb : s.heap.get id with
  | none => rw [hb] at e; simp at e
  | some B =>
   rw [hb] at e
   simp only at e
   have := note_run lim k _ b s' e rd (cond (Nat.blt id lim) (ins id wr) wr) h1 (fun i hi => ?_)
   ·obtain ⟨rd', wr', q, q1, q2⟩ := this
    refine ⟨rd', wr', ?_, q1, q2⟩
    simp only [AP.run, hb]
    cases hl : Nat.blt id lim <;> simp only [hl, cond_true, cond_false] at q ⊢ <;> exact q
   ·cases hl : Nat.blt id lim with
    | false => rw [hl] at hi; exact List.mem_cons_of_mem _ (h2 i hi)
    | true =>
     rw [hl] at hi
     exact mem_ins_note h2 hi
 | .new c k, s, b, s', e, rd, wr, h1, h2 => by
  simp only [AP.note] at e
  exact note_run lim (k s.next) _ b s' e rd wr h1 h2
def NM (e : Prop) {α : Type} (F0 F : HS → Res α) : Prop := ∀ h n rd0 wr0 a s, F0 ⟨h, n, rd0, wr0⟩ = .ok a s → ∀ rd wr, ∃ rd' wr', F ⟨h, n, rd, wr⟩ = .ok a ⟨s.heap, s.next, rd', wr'⟩ ∧ (e → Sub rd rd0 → Sub rd' s.rd) ∧ (e → Sub wr wr0 → Sub wr' s.wr)
theorem NM.bnd {e : Prop} {α β : Type} {F0 F : HS → Res α} {k0 k : α → HS → Res β} (hF : NM e F0 F) (hk : ∀ a, NM e (k0 a) (k a)) : NM e (fun s => bnd (F0 s) k0) (fun s => bnd (F s) k) := by
 intro h n rd0 wr0 b s q rd wr
 obtain ⟨a, s₁, q1, q2⟩ := bnd_ok q
 obtain ⟨rd', wr', u, u1, u2⟩ := hF h n rd0 wr0 a s₁ q1 rd wr
 obtain ⟨rd2, wr2, v, v1, v2⟩ := hk a s₁.heap s₁.next s₁.rd s₁.wr b s q2 rd' wr'
 exact ⟨rd2, wr2, by show Go.Am.bnd _ _ = _; rw [u, bnd_ok_eq]; exact v, fun c c1 => v1 c (u1 c c1), fun c c1 => v2 c (u2 c c1)⟩
theorem NM.ok {e : Prop} {α : Type} (a : α) : NM e (fun s => .ok a s) (fun s => .ok a s) := fun h n rd0 wr0 b s q rd wr => by
 simp only [Res.ok.injEq] at q
 obtain ⟨rfl, rfl⟩ := q
 exact ⟨rd, wr, rfl, fun _ c => c, fun _ c => c⟩
theorem NM.fail {e : Prop} {α : Type} (w : String) (F : HS → Res α) : NM e (fun _ => (.fail w : Res α)) F := fun h n rd0 wr0 b s q rd wr => by simp at q
theorem sub_ins {lim id : Nat} {l l' : List Nat} (h : Sub l l') : Sub (cond (Nat.blt id lim) (ins id l) l) (cond (Nat.blt id lim) (ins id l') l') := by
 cases Nat.blt id lim with
 | false => exact h
 | true => exact fun x hx => mem_ins.2 ((mem_ins.1 hx).imp (fun c => c) (h x))
theorem NM.ap {α : Type} (lim0 lim : Nat) : ∀ (p : AP α), NM (lim0 = lim) (fun s => p.run lim0 s) (fun s => p.run lim s)
 | .pure a => fun h n rd0 wr0 b s q rd wr => by
  simp only [AP.run, Res.ok.injEq] at q
  obtain ⟨rfl, rfl⟩ := q
  exact ⟨rd, wr, rfl, fun _ c => c, fun _ c => c⟩
 | .fail w => fun h n rd0 wr0 b s q rd wr => by simp [AP.run] at q
 | .get id k => fun h n rd0 wr0 b s q rd wr => by
  simp only [AP.run] at q ⊢
  cases hb : h.get id with
  | none => rw [hb] at q; simp at q
  | some B =>
   rw [hb] at q
   simp only at q
   have e0 : ∀ l r w, (match Nat.blt id l with | true => (⟨h, n, ins id r, w⟩ : HS) | false => ⟨h, n, r, w⟩) = ⟨h, n, cond (Nat.blt id l) (ins id r) r, w⟩ := fun l r w => by cases Nat.blt id l <;> rfl
   have q' : (k B).run lim0 ⟨h, n, cond (Nat.blt id lim0) (ins id rd0) rd0, wr0⟩ = .ok b s := by
    cases hl : Nat.blt id lim0 <;> simp only [hl, cond_true, cond_false] at q ⊢ <;> exact q
   obtain ⟨rd', wr', u, u1, u2⟩ := NM.ap lim0 lim (k B) h n _ _ b s q' (cond (Nat.blt id lim) (ins id rd) rd) wr
   refine ⟨rd', wr', ?_, fun c c1 => u1 c (by subst c; exact sub_ins c1), u2⟩
   cases hl : Nat.blt id lim <;> simp only [hl, cond_true, cond_false] at u ⊢ <;> exact u
 | .set id B k => fun h n rd0 wr0 b s q rd wr => by
  simp only [AP.run] at q ⊢
  cases hb : h.get id with
  | none => rw [hb] at q; simp at q
  | some B' =>
   rw [hb] at q
   simp only at q
   have q' : k.run lim0 ⟨h.set id (some B), n, rd0, cond (Nat.blt id lim0) (ins id wr0) wr0⟩ = .ok b s := by
    cases hl : Nat.blt id lim0 <;> simp only [hl, cond_true, cond_false] at q ⊢ <;> exact q
   obtain ⟨rd', wr', u, u1, u2⟩ := NM.ap lim0 lim k (h.set id (some B)) n _ _ b s q' rd (cond (Nat.blt id lim) (ins id wr) wr)
   refine ⟨rd', wr', ?_, u1, fun c c1 => u2 c (by subst c; exact sub_ins c1)⟩
   cases hl : Nat.blt id lim <;> simp only [hl, cond_true, cond_false] at u ⊢ <;> exact u
 | .kill id k => fun h n rd0 wr0 b s q rd wr => by
  simp only [AP.run] at q ⊢
  cases hb : h.get id with
  | none => rw [hb] at q; simp at q
  | some B' =>
   rw [hb] at q
   simp only at q
   have q' : k.run lim0 ⟨h.set id none, n, rd0, cond (Nat.blt id lim0) (ins id wr0) wr0⟩ = .ok b s := by
    cases hl : Nat.blt id lim0 <;> simp only [hl, cond_true, cond_false] at q ⊢ <;> exact q
   obtain ⟨rd', wr', u, u1, u2⟩ := NM.ap lim0 lim k (h.set id none) n _ _ b s q' rd (cond (Nat.blt id lim) (ins id wr) wr)
   refine ⟨rd', wr', ?_, u1, fun c c1 => u2 c (by subst c; exact sub_ins c1)⟩
   cases hl : Nat.blt id lim <;> simp only [hl, cond_true, cond_false] at u ⊢ <;> exact u
 | .new B k => fun h n rd0 wr0 b s q rd wr => by
  simp only [AP.run] at q ⊢
  exact NM.ap lim0 lim (k n) (h.set n (some B)) (n + 1) _ _ b s q rd wr
section
variable {P : Program} {O : Over} {lim0 lim : Nat}
def NME (lim0 lim : Nat) (ev : EvT) : Prop := ∀ ro c m, NM (lim0 = lim) (fun s => ev ro lim0 c m s) (fun s => ev ro lim c m s)
variable {ev : EvT}
theorem nm_takeDfs : ∀ l, NM (lim0 = lim) (takeDfs lim0 l) (takeDfs lim l)
 | [] => .ok _
 | d :: r => (NM.ap lim0 lim (takeDef d)).bnd fun _ => nm_takeDfs r
theorem nm_results (m : Tm) : ∀ l, NM (lim0 = lim) (resultsA P lim0 m l) (resultsA P lim m l)
 | [] => .ok _
 | .tmp t :: r => (nm_results m r).bnd fun l => .ok (m.get t :: l)
 | .cell a t :: r => (NM.ap lim0 lim (aLoad P t (m.get a))).bnd fun v => (nm_results m r).bnd fun l => .ok (v :: l)
theorem nm_after (rs : List ResultVar) (x : AExit × Tm) : NM (lim0 = lim) (afterA P lim0 rs x) (afterA P lim rs x) := by
 unfold afterA
 cases x.1 with
 | exit id => exact .fail _ _
 | normal => exact (nm_takeDfs _).bnd fun _ => (nm_results _ _).bnd fun _ => .ok _
 | ret => exact (nm_takeDfs _).bnd fun _ => (nm_results _ _).bnd fun _ => .ok _
theorem nm_body (h : NME lim0 lim ev) (f : FuncId) (args : List Value) : NM (lim0 = lim) (bodyA P ev lim0 f args) (bodyA P ev lim f args) := by
 unfold bodyA
 cases P.funcs[f]? with
 | none => exact .fail _ _
 | some fn =>
  simp only
  cases fn.body with
  | none => exact .fail _ _
  | some c => exact (h _ _ _).bnd fun _ => nm_after _ _
theorem nm_call (h : NME lim0 lim ev) (f : FuncId) (args : List Value) : NM (lim0 = lim) (callA P O ev lim0 f args) (callA P O ev lim f args) := by
 unfold callA
 cases O f args with
 | none => exact nm_body h f args
 | some m => exact NM.ap _ _ m
theorem nm_round (h : NME lim0 lim ev) (l : Nat) (m : Tm) (as bd : Code) : NM (lim0 = lim) (roundA ev lim0 l m as bd) (roundA ev lim l m as bd) := by
 unfold roundA
 refine (h _ _ _).bnd fun x => ?_
 cases x.1 with
 | normal => exact (NM.ap _ _ _).bnd fun _ => (h _ _ _).bnd fun _ => NM.ap _ _ _
 | exit i => exact .fail _ _
 | ret => exact .fail _ _
theorem nm_next (h : NME lim0 lim ev) (x : ANext) : NM (lim0 = lim) (nextA P O ev lim0 x) (nextA P O ev lim x) := by
 cases x with
 | value v => exact .ok _
 | skip => exact .ok _
 | enter f args => exact nm_call h f args
 | round l m as bd => exact nm_round h l m as bd
theorem nm_put (m : Tm) (d : Option Nat) (v : Value) {e : Prop} : NM e (putA m d v) (putA m d v) := by
 unfold putA
 cases m.put d v with
 | none => exact .fail _ _
 | some m => exact .ok _
theorem nm_op (h : NME lim0 lim ev) (ops : List Oper) (o : Oper) (m : Tm) : NM (lim0 = lim) (opA P O ev lim0 ops o m) (opA P O ev lim ops o m) := by
 unfold opA
 refine NM.bnd ?_ fun v => nm_put m _ v
 cases wantedA ops m o with
 | false => exact .ok _
 | true =>
  show NM _ (valA P O ev lim0 m.eval o) (valA P O ev lim m.eval o)
  unfold valA
  cases o.op.operands.toList.all opFlat with
  | false => exact .fail _ _
  | true => exact (NM.ap _ _ _).bnd fun x => nm_next h x
theorem nm_ops (h : NME lim0 lim ev) (ops : List Oper) : ∀ (r : List Oper) (m : Tm), NM (lim0 = lim) (opsA P O ev lim0 ops r m) (opsA P O ev lim ops r m)
 | [], m => .ok _
 | o :: r, m => (nm_op h ops o m).bnd fun m => nm_ops h ops r m
theorem sub_below {lim : Nat} {l a b : List Nat} (h : Sub a b) : Sub (below lim l a) (below lim l b) := fun x hx => (mem_below l b x).2 (((mem_below l a x).1 hx).imp (fun c => c) (h x))
theorem merge_hs {lim : Nat} : ∀ (fs : List Foot) (s : HS), (mergeFoots lim fs s).heap = s.heap ∧ (mergeFoots lim fs s).next = s.next
 | [], s => ⟨rfl, rfl⟩
 | f :: fs, s => merge_hs fs _
theorem merge_sub {lim : Nat} : ∀ (fs : List Foot) (s s' : HS), (Sub s.rd s'.rd → Sub (mergeFoots lim fs s).rd (mergeFoots lim fs s').rd) ∧ (Sub s.wr s'.wr → Sub (mergeFoots lim fs s).wr (mergeFoots lim fs s').wr)
 | [], s, s' => ⟨fun h => h, fun h => h⟩
 | f :: fs, s, s' => ⟨fun h => (merge_sub fs _ _).1 (sub_below h), fun h => (merge_sub fs _ _).2 (sub_below h)⟩
theorem nm_draw (ops : List Oper) (m : Tm) : NM (lim0 = lim) (drawA P O ev lim0 ops m) (drawA P O ev lim ops m) := by
 intro H n rd0 wr0 a s e rd wr
 unfold drawA at e ⊢
 cases hd : drawOk ops (loosePairs (ancestors [] ops) ops.length) with
 | false => rw [hd] at e; simp at e
 | true =>
  rw [hd] at e
  simp only [cond_true] at e ⊢
  obtain ⟨x, s₁, e₁, e₂⟩ := bnd_ok e
  have e₁' : opsF P O ev ops ops m H n = .ok x s₁ := e₁
  cases hf : footsOk x.2 (loosePairs (ancestors [] ops) ops.length) with
  | false => rw [hf] at e₂; simp at e₂
  | true =>
   rw [hf] at e₂
   simp only [cond_true, Res.ok.injEq] at e₂
   obtain ⟨rfl, e₂⟩ := e₂
   rw [show opsF P O ev ops ops m (⟨H, n, rd, wr⟩ : HS).heap (⟨H, n, rd, wr⟩ : HS).next = .ok x s₁ from e₁', bnd_ok_eq]
   simp only [hf, cond_true]
   have hh : ∀ l (r w : List Nat), (cond (Nat.beq l 0) (⟨s₁.heap, s₁.next, r, w⟩ : HS) (mergeFoots l x.2 ⟨s₁.heap, s₁.next, r, w⟩)).heap = s₁.heap ∧ (cond (Nat.beq l 0) (⟨s₁.heap, s₁.next, r, w⟩ : HS) (mergeFoots l x.2 ⟨s₁.heap, s₁.next, r, w⟩)).next = s₁.next := fun l r w => by
    cases Nat.beq l 0 with
    | true => exact ⟨rfl, rfl⟩
    | false => exact merge_hs x.2 ⟨s₁.heap, s₁.next, r, w⟩
   have h1 := hh lim rd wr
   have h0 := hh lim0 rd0 wr0
   rw [e₂] at h0
   have eta : ∀ X : HS, X.heap = s₁.heap → X.next = s₁.next → X = ⟨s.heap, s.next, X.rd, X.wr⟩ := fun X a b => by rw [h0.1, h0.2, ← a, ← b]
   refine ⟨_, _, congrArg (Res.ok x.1) (show _ = (⟨s.heap, s.next, (cond (Nat.beq lim 0) (⟨s₁.heap, s₁.next, rd, wr⟩ : HS) (mergeFoots lim x.2 ⟨s₁.heap, s₁.next, rd, wr⟩)).rd, (cond (Nat.beq lim 0) (⟨s₁.heap, s₁.next, rd, wr⟩ : HS) (mergeFoots lim x.2 ⟨s₁.heap, s₁.next, rd, wr⟩)).wr⟩ : HS) from ?_), fun c c1 => ?_, fun c c1 => ?_⟩
   ·exact eta _ h1.1 h1.2
   ·subst c
    rw [← e₂]
    cases Nat.beq lim0 0 with
    | true => exact c1
    | false => exact (merge_sub x.2 ⟨s₁.heap, s₁.next, rd, wr⟩ ⟨s₁.heap, s₁.next, rd0, wr0⟩).1 c1
   ·subst c
    rw [← e₂]
    cases Nat.beq lim0 0 with
    | true => exact c1
    | false => exact (merge_sub x.2 ⟨s₁.heap, s₁.next, rd, wr⟩ ⟨s₁.heap, s₁.next, rd0, wr0⟩).2 c1
theorem nm_range (h : NME lim0 lim ev) (ro : Option Nat) (g : Operand) (ps : List Tmp) (as bd : Code) (m : Tm) : NM (lim0 = lim) (rangeA P O ev ro lim0 g ps as bd m) (rangeA P O ev ro lim g ps as bd m) := by
 unfold rangeA
 cases opFlat g with
 | false => exact .fail _ _
 | true => exact (NM.ap _ _ _).bnd fun ld => (NM.ap _ _ _).bnd fun fa => (nm_call h _ _).bnd fun _ => (NM.ap _ _ _).bnd fun _ => .ok _
theorem nm_step (h : NME lim0 lim ev) : NME lim0 lim (stepC P O ev) := by
 intro ro c m
 cases c with
 | skip => exact .ok _
 | label l => exact .ok _
 | region id ops draw =>
  simp only [stepC]
  refine NM.bnd ?_ fun _ => .ok _
  cases draw with
  | true => exact nm_draw _ _
  | false => exact nm_ops h _ _ _
 | seq a b =>
  simp only [stepC]
  refine (h _ _ _).bnd fun x => ?_
  cases x.1 with
  | normal => exact h _ _ _
  | exit i => exact .ok _
  | ret => exact .ok _
 | cond c a b =>
  simp only [stepC]
  cases opFlat c with
  | false => exact .fail _ _
  | true =>
   simp only [cond_true]
   generalize m.eval c = z
   cases z with
   | bool t => cases t <;> exact h _ _ _
   | _ => exact .fail _ _
 | block id c =>
  simp only [stepC]
  refine (h _ _ _).bnd fun x => ?_
  cases x.1 <;> exact .ok _
 | loop c =>
  simp only [stepC]
  refine (h _ _ _).bnd fun x => ?_
  cases x.1 with
  | normal => exact h _ _ _
  | exit i => exact .ok _
  | ret => exact .ok _
 | exit id => exact .ok _
 | scope c => exact h _ _ _
 | ret => exact .ok _
 | rangeFunc g ps as bd => exact nm_range h _ _ _ _ _ _
 | goto l => exact .fail _ _
 | refuse w => exact .fail _ _
theorem nm_evC : ∀ k, NME lim0 lim (evC P O k)
 | 0 => fun ro c m => .fail _ _
 | k + 1 => nm_step (nm_evC k)
end
section
variable (P : Program) (O : Over)
def nextR (ev : EvT) (lo : Nat) (x : ANext) (s : HS) : Res Value :=
 match x with
 | .value v => .ok v s
 | .skip => .ok undefV s
 | .enter f args => match O f args with
  | some p => p.note s
  | none => bodyA P ev lo f args s
 | .round .. => .fail "a round within a region that draws"
def opR (ev : EvT) (lo : Nat) (ops : List Oper) (o : Oper) (m : Tm) (s : HS) : Res Tm :=
 bnd (cond (wantedA ops m o) (cond (o.op.operands.toList.all opFlat) (bnd ((aOp P m.eval o).note s) (nextR P O ev lo)) (.fail "")) (.ok undefV s)) fun v s => putA m o.dst v s
def opsR (ev : EvT) (ops : List Oper) : List Oper → Tm → PT ABlk → Nat → List Foot → Res (Tm × List Foot)
 | [], m, h, n, fs => .ok (m, fs) (S0 h n)
 | o :: r, m, h, n, fs => bnd (opR P O ev n ops o m ⟨h, n, [], []⟩) fun m s => opsR ev ops r m s.heap s.next (⟨n, s.next, s.rd, s.wr⟩ :: fs)
variable {P} {O}
theorem opR_op {ev : EvT} {lim : Nat} (hev : NME lim lim ev) {ops : List Oper} {o : Oper} {m m' : Tm} {h : PT ABlk} {n : Nat} {s' : HS} (e : opR P O ev lim ops o m ⟨h, n, [], []⟩ = .ok m' s') :
  ∃ rd wr, opA P O ev lim ops o m ⟨h, n, [], []⟩ = .ok m' ⟨s'.heap, s'.next, rd, wr⟩ ∧ (∀ i ∈ rd, i ∈ s'.rd) ∧ (∀ i ∈ wr, i ∈ s'.wr) := by
 unfold opR at e
 obtain ⟨v, s₁, e₁, e₂⟩ := bnd_ok e
 have put : ∀ rd wr, ∃ m'', putA m o.dst v ⟨s₁.heap, s₁.next, rd, wr⟩ = .ok m'' ⟨s₁.heap, s₁.next, rd, wr⟩ ∧ m'' = m' ∧ s₁ = s' := by
  intro rd wr
  unfold putA at e₂ ⊢
  cases hp : m.put o.dst v with
  | none => rw [hp] at e₂; simp at e₂
  | some m₁ => rw [hp] at e₂; simp only [Res.ok.injEq] at e₂; exact ⟨m₁, rfl, e₂.1, e₂.2⟩
 unfold opA
 cases hw : wantedA ops m o with
 | false =>
  rw [hw] at e₁
  simp only [cond_false, Res.ok.injEq] at e₁
  obtain ⟨rfl, rfl⟩ := e₁
  obtain ⟨_, q, rfl, rfl⟩ := put [] []
  exact ⟨[], [], by simp only [cond_false, bnd_ok_eq]; exact q, fun i hi => hi, fun i hi => hi⟩
 | true =>
  rw [hw] at e₁
  simp only [cond_true] at e₁
  cases hf : o.op.operands.toList.all opFlat with
  | false => rw [hf] at e₁; simp at e₁
  | true =>
   rw [hf] at e₁
   simp only [cond_true] at e₁
   obtain ⟨x, s₂, e₃, e₄⟩ := bnd_ok e₁
   obtain ⟨rd, wr, q, q1, q2⟩ := note_run lim _ _ _ _ e₃ [] [] (fun i hi => by simp at hi) (fun i hi => by simp at hi)
   have next : ∃ rd' wr', nextA P O ev lim x ⟨s₂.heap, s₂.next, rd, wr⟩ = .ok v ⟨s₁.heap, s₁.next, rd', wr'⟩ ∧ (∀ i ∈ rd', i ∈ s₁.rd) ∧ (∀ i ∈ wr', i ∈ s₁.wr) := by
    cases x with
    | value u => simp only [nextR, Res.ok.injEq] at e₄; obtain ⟨rfl, rfl⟩ := e₄; exact ⟨rd, wr, rfl, q1, q2⟩
    | skip => simp only [nextR, Res.ok.injEq] at e₄; obtain ⟨rfl, rfl⟩ := e₄; exact ⟨rd, wr, rfl, q1, q2⟩
    | enter f args =>
     simp only [nextR] at e₄
     cases hO : O f args with
     | none =>
      rw [hO] at e₄
      obtain ⟨rd', wr', u, u1, u2⟩ := nm_body hev f args s₂.heap s₂.next s₂.rd s₂.wr v s₁ e₄ rd wr
      exact ⟨rd', wr', by simp only [nextA, callA, hO]; exact u, u1 rfl q1, u2 rfl q2⟩
     | some p =>
      rw [hO] at e₄
      obtain ⟨rd', wr', u, u1, u2⟩ := note_run lim _ _ _ _ e₄ rd wr q1 q2
      exact ⟨rd', wr', by simp only [nextA, callA, hO]; exact u, u1, u2⟩
    | round l m as bd => simp [nextR] at e₄
   obtain ⟨rd', wr', u, u1, u2⟩ := next
   obtain ⟨_, q3, rfl, rfl⟩ := put rd' wr'
   refine ⟨rd', wr', ?_, u1, u2⟩
   simp only [cond_true, valA, hf, q, bnd_ok_eq, u]
   exact q3
structure FootSub (f g : Foot) : Prop where
 lo : f.lo = g.lo
 hi : f.hi = g.hi
 rd : ∀ i ∈ f.rd, i ∈ g.rd
 wr : ∀ i ∈ f.wr, i ∈ g.wr
inductive FootsSub : List Foot → List Foot → Prop
 | nil : FootsSub [] []
 | cons (f g : Foot) (l l' : List Foot) (h : FootSub f g) (t : FootsSub l l') : FootsSub (f :: l) (g :: l')
theorem FootsSub.get : ∀ {l l' : List Foot}, FootsSub l l' → ∀ i : Nat, (l[i]? = none ∧ l'[i]? = none) ∨ ∃ f g, l[i]? = some f ∧ l'[i]? = some g ∧ FootSub f g
 | _, _, .nil, i => .inl ⟨rfl, rfl⟩
 | _, _, .cons f g l l' h t, 0 => .inr ⟨f, g, rfl, rfl, h⟩
 | _, _, .cons f g l l' h t, i + 1 => by simpa using t.get i
theorem meets_sub {a b a' b' : List Nat} (h1 : ∀ i ∈ a, i ∈ a') (h2 : ∀ i ∈ b, i ∈ b') (h : meets a' b' = false) : meets a b = false := by
 cases hm : meets a b with
 | false => rfl
 | true =>
  simp only [meets, List.any_eq_true] at hm
  obtain ⟨x, hx, y, hy, hxy⟩ := hm
  have : meets a' b' = true := by
   simp only [meets, List.any_eq_true]
   exact ⟨x, h1 x hx, y, h2 y hy, hxy⟩
  rw [h] at this
  exact absurd this (by decide)
theorem meetsRange_sub {a a' : List Nat} {lo hi : Nat} (h1 : ∀ i ∈ a, i ∈ a') (h : meetsRange a' lo hi = false) : meetsRange a lo hi = false := by
 cases hm : meetsRange a lo hi with
 | false => rfl
 | true =>
  simp only [meetsRange, List.any_eq_true] at hm
  obtain ⟨x, hx, hxy⟩ := hm
  have : meetsRange a' lo hi = true := by
   simp only [meetsRange, List.any_eq_true]
   exact ⟨x, h1 x hx, hxy⟩
  rw [h] at this
  exact absurd this (by decide)
theorem clash_sub {f g f' g' : Foot} (h1 : FootSub f f') (h2 : FootSub g g') (h : clash f' g' = false) : clash f g = false := by
 unfold clash at *
 simp only [Bool.or_eq_false_iff] at h ⊢
 obtain ⟨⟨⟨⟨a, b⟩, c⟩, d⟩, e⟩ := h
 rw [h1.lo, h1.hi]
 exact ⟨⟨⟨⟨meets_sub h1.wr h2.wr a, meets_sub h1.wr h2.rd b⟩, meets_sub h1.rd h2.wr c⟩, meetsRange_sub h2.rd d⟩, meetsRange_sub h2.wr e⟩
theorem footsOk_sub {l l' : List Foot} (h : FootsSub l l') {L : List (Nat × Nat)} (k : footsOk l' L = true) : footsOk l L = true := by
 unfold footsOk at *
 rw [List.all_eq_true] at k ⊢
 intro p hp
 have := k p hp
 rcases h.get p.1 with ⟨a, b⟩ | ⟨f, g, a, b, c⟩
 ·simp [a, b] at this
 ·rcases h.get p.2 with ⟨a', b'⟩ | ⟨f', g', a', b', c'⟩
  ·simp [a, b, a', b'] at this
  ·simp only [a, b, a', b'] at this ⊢
   simp only [Bool.not_eq_true'] at this ⊢
   exact clash_sub c c' this
theorem opsR_ops {ev : EvT} (hev : ∀ lim, NME lim lim ev) {ops : List Oper} : ∀ (r : List Oper) {m m' : Tm} {h : PT ABlk} {n : Nat} {fs fs' : List Foot} {s' : HS}, opsR P O ev ops r m h n fs = .ok (m', fs') s' →
  ∃ F G, opsF P O ev ops r m h n = .ok (m', F) s' ∧ fs' = G.reverse ++ fs ∧ FootsSub F G ∧ s' = S0 s'.heap s'.next
 | [], m, m', h, n, fs, fs', s', e => by
  simp only [opsR, Res.ok.injEq, Prod.mk.injEq] at e
  obtain ⟨⟨rfl, rfl⟩, rfl⟩ := e
  exact ⟨[], [], rfl, rfl, .nil, rfl⟩
 | o :: r, m, m', h, n, fs, fs', s', e => by
  simp only [opsR] at e
  obtain ⟨m₁, s₁, e₁, e₂⟩ := bnd_ok e
  obtain ⟨rd, wr, q, q1, q2⟩ := opR_op (hev n) e₁
  obtain ⟨F, G, u, rfl, u1, u2⟩ := opsR_ops hev r e₂
  refine ⟨⟨n, s₁.next, rd, wr⟩ :: F, ⟨n, s₁.next, s₁.rd, s₁.wr⟩ :: G, ?_, by simp, .cons _ _ _ _ ⟨rfl, rfl, q1, q2⟩ u1, u2⟩
  simp only [opsF, q, bnd_ok_eq, u]
end
section rules
variable {z : Zx} {K : List KF} {m : Tm} {h : PT ABlk} {n : Nat}
def EvD (z : Zx) (L : List (Nat × Nat)) (ops r : List Oper) (K : List KF) (m : Tm) (h : PT ABlk) (n : Nat) (fs : List Foot) : Prop :=
 m.n = z.N ∧ ∃ k m' fs' h' n', opsR z.P z.O (evC z.P z.O k) ops r m h n fs = .ok (m', fs') (S0 h' n') ∧ footsOk fs'.reverse L = true ∧ Rs z K .normal m' h' n'
def EvX (z : Zx) (L : List (Nat × Nat)) (p : AP ANext) (d : Option Nat) (ops r : List Oper) (K : List KF) (m : Tm) (h : PT ABlk) (n lo : Nat) (rd wr : List Nat) (fs : List Foot) : Prop :=
 m.n = z.N ∧ ∃ k m' fs' h' n', bnd (p.note ⟨h, n, rd, wr⟩) (fun x s => bnd (nextR z.P z.O (evC z.P z.O k) lo x s) fun v s => bnd (putA m d v s) fun m s => opsR z.P z.O (evC z.P z.O k) ops r m s.heap s.next (⟨lo, s.next, s.rd, s.wr⟩ :: fs)) = .ok (m', fs') (S0 h' n') ∧
  footsOk fs'.reverse L = true ∧ Rs z K .normal m' h' n'
theorem EvK_draw {id : Nat} {ops : Array Oper} {L : List (Nat × Nat)} (hL : loosePairs (ancestors [] ops.toList) ops.toList.length = L) (hd : drawOk ops.toList L = true) (e : EvD z L ops.toList ops.toList K m h n []) :
  EvK z (.region id ops true) K m h n := by
 obtain ⟨hm, k, m', fs', h', n', e, hf, r⟩ := e
 refine ⟨hm, k + 1, (.normal, m'), h', n', ?_, r⟩
 obtain ⟨F, G, q, rfl, q1, _⟩ := opsR_ops (fun lim => nm_evC k) _ e
 rw [evC_succ]
 simp only [stepC, cond_true]
 have : drawA z.P z.O (evC z.P z.O k) 0 ops.toList m (S0 h n) = .ok m' (S0 h' n') := by
  unfold drawA
  simp only [hL, hd, cond_true]
  rw [show (S0 h n).heap = h from rfl, show (S0 h n).next = n from rfl, q]
  simp only [bnd_ok_eq]
  rw [footsOk_sub q1 (by simpa using hf)]
  rfl
 rw [this]
 rfl
theorem EvD_nil {L : List (Nat × Nat)} {ops : List Oper} {fs : List Foot} : EvD z L ops [] K m h n fs ↔ footsOk fs.reverse L = true ∧ Rs z K .normal m h n := by
 constructor
 ·rintro ⟨hm, k, m', fs', h', n', e, hf, r⟩
  simp only [opsR, Res.ok.injEq, Prod.mk.injEq, S0, HS.mk.injEq] at e
  obtain ⟨⟨rfl, rfl⟩, rfl, rfl, _⟩ := e
  exact ⟨hf, r⟩
 ·rintro ⟨hf, r⟩
  exact ⟨Rs_n r, 0, m, fs, h, n, rfl, hf, r⟩
def EvH (z : Zx) (L : List (Nat × Nat)) (w : Bool) (o : Oper) (ops r : List Oper) (K : List KF) (m : Tm) (h : PT ABlk) (n : Nat) (fs : List Foot) : Prop :=
 cond w (o.op.operands.toList.all opFlat = true ∧ EvX z L (aOp z.P m.eval o) o.dst ops r K m h n n [] [] fs) (EvX z L (.pure .skip) o.dst ops r K m h n n [] [] fs)
theorem EvD_cons {L : List (Nat × Nat)} {o : Oper} {ops r : List Oper} {fs : List Foot} : EvD z L ops (o :: r) K m h n fs ↔ EvH z L (wantedA ops m o) o ops r K m h n fs := by
 unfold EvH
 cases hw : wantedA ops m o with
 | false =>
  simp only [cond_false]
  refine and_congr_right fun hm => ?_
  simp only [opsR, opR, hw, cond_false, AP.note, bnd_ok_eq, nextR]
 | true =>
  simp only [cond_true]
  constructor
  ·rintro ⟨hm, k, m', fs', h', n', e, r⟩
   simp only [opsR, opR, hw, cond_true] at e
   cases hf : o.op.operands.toList.all opFlat with
   | false => rw [hf] at e; simp [bnd] at e
   | true =>
    rw [hf] at e
    simp only [cond_true, bnd_assoc] at e
    exact ⟨rfl, hm, k, m', fs', h', n', e, r⟩
  ·rintro ⟨hf, hm, k, m', fs', h', n', e, r⟩
   refine ⟨hm, k, m', fs', h', n', ?_, r⟩
   simp only [opsR, opR, hw, cond_true, hf, bnd_assoc]
   exact e
variable {L : List (Nat × Nat)} {d : Option Nat} {ops r : List Oper} {lo : Nat} {rd wr : List Nat} {fs : List Foot}
theorem EvH_true {o : Oper} : EvH z L true o ops r K m h n fs ↔ o.op.operands.toList.all opFlat = true ∧ EvX z L (aOp z.P m.eval o) o.dst ops r K m h n n [] [] fs := Iff.rfl
theorem EvH_false {o : Oper} : EvH z L false o ops r K m h n fs ↔ EvX z L (.pure .skip) o.dst ops r K m h n n [] [] fs := Iff.rfl
theorem EvX_value {i : Nat} {v : Value} : EvX z L (.pure (.value v)) (some i) ops r K m h n lo rd wr fs ↔ i < z.N ∧ EvD z L ops r K (up m i v) h n (⟨lo, n, rd, wr⟩ :: fs) := by
 unfold EvX EvD
 simp only [AP.note, bnd_ok_eq, nextR, putA, Tm.put, up_n]
 constructor
 ·rintro ⟨hm, k, m', fs', h', n', e, q⟩
  cases hb : Nat.blt i m.n with
  | false => rw [hb] at e; simp [bnd] at e
  | true =>
   rw [hb] at e
   have := Nat.le_of_ble_eq_true hb
   exact ⟨by omega, hm, k, m', fs', h', n', e, q⟩
 ·rintro ⟨hi, hm, k, m', fs', h', n', e, q⟩
  have hb : Nat.blt i m.n = true := Nat.ble_eq_true_of_le (by omega)
  exact ⟨hm, k, m', fs', h', n', by rw [hb]; exact e, q⟩
theorem EvX_value' {v : Value} : EvX z L (.pure (.value v)) none ops r K m h n lo rd wr fs ↔ EvD z L ops r K m h n (⟨lo, n, rd, wr⟩ :: fs) := Iff.rfl
theorem EvX_skip {i : Nat} : EvX z L (.pure .skip) (some i) ops r K m h n lo rd wr fs ↔ i < z.N ∧ EvD z L ops r K (up m i undefV) h n (⟨lo, n, rd, wr⟩ :: fs) := EvX_value (v := undefV)
theorem EvX_skip' : EvX z L (.pure .skip) none ops r K m h n lo rd wr fs ↔ EvD z L ops r K m h n (⟨lo, n, rd, wr⟩ :: fs) := Iff.rfl
theorem EvX_fail {w : String} : EvX z L (.fail w) d ops r K m h n lo rd wr fs ↔ False := by
 constructor
 ·rintro ⟨_, k, m', fs', h', n', e, _⟩; simp [AP.note, bnd] at e
 ·exact False.elim
def EvXL (z : Zx) (L : List (Nat × Nat)) (b : Option ABlk) (f : ABlk → AP ANext) (d : Option Nat) (ops r : List Oper) (K : List KF) (m : Tm) (h : PT ABlk) (n lo : Nat) (rd wr : List Nat) (fs : List Foot) : Prop :=
 match b with
 | some b => EvX z L (f b) d ops r K m h n lo rd wr fs
 | none => False
theorem EvX_get {id : Nat} {f : ABlk → AP ANext} : EvX z L (.get id f) d ops r K m h n lo rd wr fs ↔ EvXL z L (h.get id) f d ops r K m h n lo (id :: rd) wr fs := by
 unfold EvXL EvX
 simp only [AP.note]
 cases hb : h.get id with
 | none => simp [bnd]
 | some b => exact Iff.rfl
theorem EvXL_some {b : ABlk} {f : ABlk → AP ANext} : EvXL z L (some b) f d ops r K m h n lo rd wr fs ↔ EvX z L (f b) d ops r K m h n lo rd wr fs := Iff.rfl
def EvXS (z : Zx) (L : List (Nat × Nat)) (o : Option ABlk) (id : Nat) (b : Option ABlk) (p : AP ANext) (d : Option Nat) (ops r : List Oper) (K : List KF) (m : Tm) (h : PT ABlk) (n lo : Nat) (rd wr : List Nat) (fs : List Foot) : Prop :=
 match o with
 | some _ => EvX z L p d ops r K m (h.set id b) n lo rd wr fs
 | none => False
theorem EvX_set {id : Nat} {b : ABlk} {p : AP ANext} : EvX z L (.set id b p) d ops r K m h n lo rd wr fs ↔ EvXS z L (h.get id) id (some b) p d ops r K m h n lo rd (id :: wr) fs := by
 unfold EvXS EvX
 simp only [AP.note]
 cases hb : h.get id with
 | none => simp [bnd]
 | some c => exact Iff.rfl
theorem EvX_kill {id : Nat} {p : AP ANext} : EvX z L (.kill id p) d ops r K m h n lo rd wr fs ↔ EvXS z L (h.get id) id none p d ops r K m h n lo rd (id :: wr) fs := by
 unfold EvXS EvX
 simp only [AP.note]
 cases hb : h.get id with
 | none => simp [bnd]
 | some c => exact Iff.rfl
theorem EvXS_some {c : ABlk} {id : Nat} {b : Option ABlk} {p : AP ANext} : EvXS z L (some c) id b p d ops r K m h n lo rd wr fs ↔ EvX z L p d ops r K m (h.set id b) n lo rd wr fs := Iff.rfl
theorem EvX_new {b : ABlk} {f : Nat → AP ANext} : EvX z L (.new b f) d ops r K m h n lo rd wr fs ↔ EvX z L (f n) d ops r K m (h.set n (some b)) (n + 1) lo rd wr fs := Iff.rfl
theorem note_bind {α β : Type} : ∀ (p : AP α) (f : α → AP β) (s : HS), (p.bind f).note s = bnd (p.note s) fun a s => (f a).note s
 | .pure a, f, s => rfl
 | .fail w, f, s => rfl
 | .get id k, f, s => by
  simp only [AP.bind, AP.note]
  cases s.heap.get id with
  | none => rfl
  | some b => exact note_bind (k b) f _
 | .set id b k, f, s => by
  simp only [AP.bind, AP.note]
  cases s.heap.get id with
  | none => rfl
  | some _ => exact note_bind k f _
 | .kill id k, f, s => by
  simp only [AP.bind, AP.note]
  cases s.heap.get id with
  | none => rfl
  | some _ => exact note_bind k f _
 | .new b k, f, s => by
  simp only [AP.bind, AP.note]
  exact note_bind (k s.next) f _
def EvXQ (z : Zx) (L : List (Nat × Nat)) (s : Option (AP Value)) (f : FuncId) (args : List Value) (d : Option Nat) (ops r : List Oper) (K : List KF) (m : Tm) (h : PT ABlk) (n lo : Nat) (rd wr : List Nat) (fs : List Foot) : Prop :=
 match s with
 | some p => EvX z L (p.bind fun v => .pure (.value v)) d ops r K m h n lo rd wr fs
 | none => EvX z L (.pure (.enter f args)) d ops r K m h n lo rd wr fs
theorem EvX_enter {f : FuncId} {args : List Value} : EvX z L (.pure (.enter f args)) d ops r K m h n lo rd wr fs ↔ EvXQ z L (z.O f args) f args d ops r K m h n lo rd wr fs := by
 unfold EvXQ
 cases hO : z.O f args with
 | none => exact Iff.rfl
 | some p => simp only [EvX, note_bind, bnd_assoc, AP.note, bnd_ok_eq, nextR, hO]
theorem EvXQ_some {p : AP Value} {f : FuncId} {args : List Value} : EvXQ z L (some p) f args d ops r K m h n lo rd wr fs ↔ EvX z L (p.bind fun v => .pure (.value v)) d ops r K m h n lo rd wr fs := Iff.rfl
theorem opsR_mono {P : Program} {O : Over} {ev ev' : EvT} (hle : EvLe ev ev') {ops : List Oper} : ∀ (r : List Oper) {m : Tm} {h : PT ABlk} {n : Nat} {fs : List Foot} {x : Tm × List Foot} {s' : HS}, opsR P O ev ops r m h n fs = .ok x s' → opsR P O ev' ops r m h n fs = .ok x s'
 | [], _, _, _, _, _, _, e => e
 | o :: r, m, h, n, fs, x, s', e => by
  unfold opsR at e ⊢
  refine bnd_mono (fun a s q => ?_) (fun a s _ b s' q => opsR_mono hle r q) e
  unfold opR at q ⊢
  refine bnd_mono (fun a s q => ?_) (fun _ _ _ _ _ q => q) q
  cases hw : wantedA ops m o with
  | false => rw [hw] at q; exact q
  | true =>
   rw [hw] at q
   simp only [cond_true] at q ⊢
   cases hf : o.op.operands.toList.all opFlat with
   | false => rw [hf] at q; simp at q
   | true =>
    rw [hf] at q
    simp only [cond_true] at q ⊢
    refine bnd_mono (fun _ _ q => q) (fun a s _ b s' q => ?_) q
    cases a with
    | value v => exact q
    | skip => exact q
    | round l m as bd => exact q
    | enter f args =>
     simp only [nextR] at q ⊢
     cases hO : O f args with
     | none => rw [hO] at q; exact body_mono hle q
     | some p => rw [hO] at q; exact q
theorem EvX_body {f : FuncId} {args : List Value} {k : Nat} {v : Value} {h' : PT ABlk} {n' : Nat} (hm : m.n = z.N) (hO : z.O f args = none) (e : bodyA z.P (evC z.P z.O k) 0 f args (S0 h n) = .ok v (S0 h' n')) (hk : ∀ rd' wr', EvX z L (.pure (.value v)) d ops r K m h' n' lo rd' wr' fs) :
  EvX z L (.pure (.enter f args)) d ops r K m h n lo rd wr fs := by
 obtain ⟨rd', wr', u, -, -⟩ := nm_body (lim := lo) (nm_evC k) f args h n [] [] v (S0 h' n') e rd wr
 obtain ⟨_, k2, m', fs', h2, n2, e2, q⟩ := hk rd' wr'
 refine ⟨hm, max k k2, m', fs', h2, n2, ?_, q⟩
 simp only [AP.note, bnd_ok_eq, nextR, hO] at e2 ⊢
 rw [body_mono (evC_mono (Nat.le_max_left k k2)) u, bnd_ok_eq]
 exact bnd_mono (fun _ _ q => q) (fun a s _ b s' q => opsR_mono (evC_mono (Nat.le_max_right k k2)) r q) e2
end rules
end Go.Am
/-
 The abstract machine, for proofs with variables: a function's body against a summary on the abstract heap: what it leaves behind besides is forgotten, and its new blocks are named anew.
-/
set_option linter.unusedSimpArgs false
set_option linter.unusedVariables false
namespace Go.Am
open Go.RowKit
def EvB (P : Program) (O : Over) (f : FuncId) (args : List Value) (h : PT ABlk) (n : Nat) (R : Value → PT ABlk → Nat → Prop) : Prop :=
 ∃ k v h' n', bodyA P (evC P O k) 0 f args (S0 h n) = .ok v (S0 h' n') ∧ R v h' n'
def ldO (P : Program) (t : TypeId) (x : Value) (h : PT ABlk) : Option Value := match (aLoad P t x).run 0 (S0 h 0) with
 | .ok v _ => some v
 | .fail _ => none
def resV (P : Program) (m : Tm) (h : PT ABlk) : List ResultVar → Option (List Value)
 | [] => some []
 | .tmp t :: r => match resV P m h r with
  | some l => some (m.get t :: l)
  | none => none
 | .cell a t :: r => match ldO P t (m.get a) h with
  | some v => match resV P m h r with
   | some l => some (v :: l)
   | none => none
  | none => none
theorem load_any {P : Program} {t : TypeId} {x : Value} {h : PT ABlk} {v : Value} (n : Nat) (e : ldO P t x h = some v) : (aLoad P t x).run 0 (S0 h n) = .ok v (S0 h n) := by
 have key : ∀ n, (aLoad P t x).run 0 (S0 h n) = match ldO P t x h with | some v => .ok v (S0 h n) | none => (aLoad P t x).run 0 (S0 h n) := by
  intro n
  unfold ldO aLoad
  split
  ·rename_i a i d _ _
   simp only [AP.run, show ∀ m, (S0 h m).heap = h from fun _ => rfl]
   cases h.get a.block with
   | none => rfl
   | some b =>
    simp only [show Nat.blt a.block 0 = false from rfl, cond_false]
    cases b <;> first | rfl | skip
    rename_i c ro
    cases isAgg d with
    | false => simp only [cond_false]; cases c.get a.off <;> rfl
    | true => simp only [cond_true]; cases readCells c a.off i.size <;> rfl
  ·rfl
 rw [key n, e]
theorem res_run {P : Program} {m : Tm} {h : PT ABlk} {n : Nat} : ∀ {rs : List ResultVar} {l : List Value}, resV P m h rs = some l → resultsA P 0 m rs (S0 h n) = .ok l (S0 h n)
 | [], l, e => by simp only [resV, Option.some.injEq] at e; subst e; rfl
 | .tmp t :: r, l, e => by
  simp only [resV] at e
  cases hr : resV P m h r with
  | none => rw [hr] at e; simp at e
  | some l' =>
   rw [hr] at e
   simp only [Option.some.injEq] at e
   subst e
   show bnd (resultsA P 0 m r (S0 h n)) _ = _
   rw [res_run hr]; rfl
 | .cell a t :: r, l, e => by
  simp only [resV] at e
  cases hv : ldO P t (m.get a) h with
  | none => rw [hv] at e; simp at e
  | some v =>
   rw [hv] at e
   cases hr : resV P m h r with
   | none => rw [hr] at e; simp at e
   | some l' =>
    rw [hr] at e
    simp only [Option.some.injEq] at e
    subst e
    show bnd ((aLoad P t (m.get a)).run 0 (S0 h n)) _ = _
    rw [load_any n hv]
    show bnd (resultsA P 0 m r (S0 h n)) _ = _
    rw [res_run hr]; rfl
def Fin (P : Program) (rs : List ResultVar) (R : Value → PT ABlk → Nat → Prop) (e : AExit) (m : Tm) (h : PT ABlk) (n : Nat) : Prop :=
 (match e with | .exit _ => False | _ => True) ∧ m.dfs = [] ∧ ∃ l, resV P m h rs = some l ∧ R (oneOf l) h n
theorem EvB_of {P : Program} {O : Over} {f : FuncId} {fn : Func} {c : Code} {args : List Value} {h : PT ABlk} {n : Nat} {R : Value → PT ABlk → Nat → Prop} (hf : P.funcs[f]? = some fn) (hb : fn.body = some c)
  (H : ∀ z : Zx, z.P = P → z.O = O → z.ro = none → z.N = args.length + (fn.ntmps - args.length) → z.Q = Fin P fn.results.toList R → EvK z c [] ⟨args.length + (fn.ntmps - args.length), PT.ofList .leaf 0 args, []⟩ h n) : EvB P O f args h n R := by
 obtain ⟨_, k, x, h', n', e, hx⟩ := H ⟨P, O, none, args.length + (fn.ntmps - args.length), Fin P fn.results.toList R⟩ rfl rfl rfl rfl rfl
 obtain ⟨_, hx, hd, l, hl, hR⟩ : _ ∧ Fin P fn.results.toList R x.1 x.2 h' n' := hx
 refine ⟨k, oneOf l, h', n', ?_, hR⟩
 simp only [bodyA, hf, hb]
 rw [e, bnd_ok_eq]
 unfold afterA
 rw [hd]
 cases hx1 : x.1 with
 | exit i => rw [hx1] at hx; exact hx.elim
 | normal => simp only [takeDfs, bnd_ok_eq]; rw [res_run hl]; rfl
 | ret => simp only [takeDfs, bnd_ok_eq]; rw [res_run hl]; rfl
mutual
inductive VRen (I : Nat → Nat → Prop) (Old : Value → Prop) : Value → Value → Prop
 | old (v : Value) (h : Old v) : VRen I Old v v
 | bool (b : Bool) : VRen I Old (.bool b) (.bool b)
 | int (k : IntKind) (n : Int) : VRen I Old (.int k n) (.int k n)
 | string (s : ByteArray) : VRen I Old (.string s) (.string s)
 | nilptr : VRen I Old (.pointer none) (.pointer none)
 | ptr (b off b' : Nat) (h : I b b') : VRen I Old (.pointer (some ⟨b, off, none⟩)) (.pointer (some ⟨b', off, none⟩))
 | nilslice (n c : Nat) : VRen I Old (.slice none n c) (.slice none n c)
 | slice (b off n c b' : Nat) (h : I b b') : VRen I Old (.slice (some ⟨b, off, none⟩) n c) (.slice (some ⟨b', off, none⟩) n c)
 | nilmap : VRen I Old (.map none) (.map none)
 | map (r r' : Nat) (h : I r r') : VRen I Old (.map (some r)) (.map (some r'))
 | func (f : FuncId) (x x' y y' : List Value) (hx : VRens I Old x x') (hy : VRens I Old y y') : VRen I Old (.func (.func f) ⟨x⟩ ⟨y⟩) (.func (.func f) ⟨x'⟩ ⟨y'⟩)
 | nilfunc : VRen I Old .nilFunc .nilFunc
 | iface (t : TypeId) (v v' : Value) (h : VRen I Old v v') : VRen I Old (.iface t v) (.iface t v')
 | niliface : VRen I Old .nilIface .nilIface
 | agg (l l' : List Value) (h : VRens I Old l l') : VRen I Old (.agg ⟨l⟩) (.agg ⟨l'⟩)
 | tuple (l l' : List Value) (h : VRens I Old l l') : VRen I Old (.tuple ⟨l⟩) (.tuple ⟨l'⟩)
inductive VRens (I : Nat → Nat → Prop) (Old : Value → Prop) : List Value → List Value → Prop
 | nil : VRens I Old [] []
 | cons (v v' : Value) (l l' : List Value) (h : VRen I Old v v') (t : VRens I Old l l') : VRens I Old (v :: l) (v' :: l')
end
theorem VRens.get {I : Nat → Nat → Prop} {Old : Value → Prop} : ∀ {l l' : List Value} (_ : VRens I Old l l') {i : Nat} {v : Value}, l[i]? = some v → ∃ v', l'[i]? = some v' ∧ VRen I Old v v'
 | _, _, .nil, i, v, e => by simp at e
 | _, _, .cons _ v' _ _ h t, 0, v, e => by simp at e; subst e; exact ⟨v', rfl, h⟩
 | _, _, .cons _ _ _ _ h t, i + 1, v, e => by simp at e; simpa using VRens.get t e
theorem VRens.refl {I : Nat → Nat → Prop} {Old : Value → Prop} : ∀ (l : List Value), (∀ v ∈ l, VRen I Old v v) → VRens I Old l l
 | [], _ => .nil
 | v :: l, h => .cons _ _ _ _ (h v (by simp)) (VRens.refl l fun y hy => h y (by simp [hy]))
theorem VRens.append {I : Nat → Nat → Prop} {Old : Value → Prop} : ∀ {l l' m m' : List Value}, VRens I Old l l' → VRens I Old m m' → VRens I Old (l ++ m) (l' ++ m')
 | _, _, _, _, .nil, k => k
 | _, _, _, _, .cons _ _ _ _ h t, k => .cons _ _ _ _ h (t.append k)
mutual
theorem VRen.rel {I : Nat → Nat → Prop} {Old : Value → Prop} {Γ Γ' : Emb} (hI : ∀ j j', I j j' → Γ'.blk j = Γ.blk j') (hO : ∀ v, Old v → ∀ u, VRel Γ v u → VRel Γ' v u) (hz : Γ'.siz = Γ.siz) :
  ∀ {v v' u : Value}, VRen I Old v v' → VRel Γ v' u → VRel Γ' v u
 | _, _, _, .old v h, r => hO v h _ r
 | _, _, _, .bool b, .bool _ => .bool b
 | _, _, _, .int k n, .int _ _ => .int k n
 | _, _, _, .string s, .string _ => .string s
 | _, _, _, .nilptr, .nilptr => .nilptr
 | _, _, _, .ptr b off b' h, .ptr _ a' ha => .ptr _ a' ⟨rfl, ha.spot', let ⟨s, e, o⟩ := ha.at_; ⟨s, (hI _ _ h).trans e, o⟩⟩
 | _, _, _, .nilslice n c, .nilslice _ _ => .nilslice n c
 | _, _, _, .slice b off n c b' h, .slice _ a' _ _ c' ha hc => by
  refine .slice _ a' n c c' ?_ ?_
  ·rcases ha with ha | ⟨h1, h2, h3, s, h4⟩ | hz
   ·exact .inl ⟨rfl, ha.spot', let ⟨s, e, o⟩ := ha.at_; ⟨s, (hI _ _ h).trans e, o⟩⟩
   ·exact .inr (.inl ⟨h1, h2, h3, s, (hI _ _ h).trans h4⟩)
   ·exact .inr (.inr hz)
  ·unfold Emb.cap at hc ⊢
   rw [hz]; exact hc
 | _, _, _, .nilmap, .nilmap => .nilmap
 | _, _, _, .map r r' h, .map _ u hu => .map _ u ((hI _ _ h).trans hu)
 | _, _, _, .func f x x' y y' hx hy, .func _ fn' _ a _ b ha hb hp => by
  refine .func _ fn' _ a _ b (VRens.rel hI hO hz hx ha) (VRens.rel hI hO hz hy hb) ?_
  cases hp with
  | plain _ hp => exact .plain _ hp
 | _, _, _, .nilfunc, .nilfunc => .nilfunc
 | _, _, _, .iface t v v' h, .iface _ _ u hu => .iface t v u (VRen.rel hI hO hz h hu)
 | _, _, _, .niliface, .niliface => .niliface
 | _, _, _, .agg l l' h, .agg _ u hu => .agg l u (VRens.rel hI hO hz h hu)
 | _, _, _, .tuple l l' h, .tuple _ u hu => .tuple l u (VRens.rel hI hO hz h hu)
theorem VRens.rel {I : Nat → Nat → Prop} {Old : Value → Prop} {Γ Γ' : Emb} (hI : ∀ j j', I j j' → Γ'.blk j = Γ.blk j') (hO : ∀ v, Old v → ∀ u, VRel Γ v u → VRel Γ' v u) (hz : Γ'.siz = Γ.siz) :
  ∀ {l l' u : List Value}, VRens I Old l l' → VRels Γ l' u → VRels Γ' l u
 | _, _, _, .nil, .nil => .nil
 | _, _, _, .cons _ _ _ _ h t, .cons _ _ _ _ hu tu => .cons _ _ _ _ (VRen.rel hI hO hz h hu) (VRens.rel hI hO hz t tu)
end
mutual
theorem VRel.down {Γ Γ₂ : Emb} (hle : Γ.le Γ₂) : ∀ {v u₀ u : Value}, VRel Γ v u₀ → VRel Γ₂ v u → VRel Γ v u
 | _, _, _, .bool b, .bool _ => .bool b
 | _, _, _, .int k n, .int _ _ => .int k n
 | _, _, _, .float k n, .float _ _ => .float k n
 | _, _, _, .complex k n m, .complex _ _ _ => .complex k n m
 | _, _, _, .string s, .string _ => .string s
 | _, _, _, .nilptr, .nilptr => .nilptr
 | _, _, _, .ptr a a₀ h₀, .ptr _ a' ha => .ptr a a' ⟨ha.spot, ha.spot', by
   obtain ⟨s, e, o⟩ := ha.at_
   obtain ⟨s₀, e₀, _⟩ := h₀.at_
   have := hle.blk _ _ e₀
   rw [e] at this
   obtain ⟨h1, rfl⟩ : a'.block = a₀.block ∧ s = s₀ := by simpa using this
   exact ⟨s, by rw [h1]; exact e₀, o⟩⟩
 | _, _, _, .nilslice n c, .nilslice _ _ => .nilslice n c
 | _, _, _, .slice a a₀ n c c₀ h₀ k₀, .slice _ a' _ _ c' ha hc => by
  by_cases hz : n = 0 ∧ c = 0
  ·obtain ⟨rfl, rfl⟩ := hz
   refine .slice a a' 0 0 c' (.inr (.inr ⟨rfl, rfl⟩)) ?_
   unfold Emb.cap at hc ⊢
   rw [if_neg (by unfold capInf; omega)] at hc ⊢
   exact hc
  obtain ⟨s₀, e₀⟩ : ∃ s, Γ.blk a.block = some (a₀.block, s) := by
   rcases h₀ with h₀ | h₀ | h₀
   ·obtain ⟨s, e, _⟩ := h₀.at_; exact ⟨s, e⟩
   ·exact h₀.2.2.2
   ·exact absurd h₀ hz
  have e₂ := hle.blk _ _ e₀
  refine .slice a a' n c c' ?_ ?_
  ·rcases ha with ha | ⟨h1, h2, h3, s, h4⟩ | ha
   rotate_left 2
   ·exact absurd ha hz
   ·refine .inl ⟨ha.spot, ha.spot', ?_⟩
    obtain ⟨s, e, o⟩ := ha.at_
    rw [e] at e₂
    obtain ⟨h1, rfl⟩ : a'.block = a₀.block ∧ s = s₀ := by simpa using e₂
    exact ⟨s, by rw [h1]; exact e₀, o⟩
   ·refine .inr (.inl ⟨h1, h2, h3, s, ?_⟩)
    rw [h4] at e₂
    obtain ⟨h1, rfl⟩ : a'.block = a₀.block ∧ s = s₀ := by simpa using e₂
    rw [h1]; exact e₀
  ·unfold Emb.cap at hc k₀ ⊢
   split
   ·rename_i hi
    have hb : a'.block = a₀.block := by
     obtain ⟨s, e⟩ := ha.block (by unfold capInf at hi; omega)
     rw [e] at e₂
     exact (by simpa using e₂ : a'.block = a₀.block ∧ s = s₀).1
    rw [if_pos hi] at hc k₀
    obtain ⟨h1, M, h2, h3⟩ := hc
    obtain ⟨_, M₀, h4, _⟩ := k₀
    have := hle.siz _ _ h4
    rw [← hb, h2] at this
    obtain rfl : M = M₀ := by simpa using this
    exact ⟨h1, M, by rw [hb]; exact h4, h3⟩
   ·rename_i hi
    rw [if_neg hi] at hc
    exact hc
 | _, _, _, .nilmap, .nilmap => .nilmap
 | _, _, _, .map r r₀ h₀, .map _ r' h => by
  have := hle.blk _ _ h₀
  rw [h] at this
  obtain rfl : r' = r₀ := by simpa using this
  exact .map _ _ h₀
 | _, _, _, .nilchan, .nilchan => .nilchan
 | _, _, _, .func fn _ f _ c _ hf hc hp, .func _ _ _ _ _ _ hf' hc' hp' => by
  refine .func _ _ _ _ _ _ (VRels.down hle hf hf') (VRels.down hle hc hc') ?_
  cases hp' with
  | plain _ h => exact .plain _ h
  | yield l l' h =>
   cases hp with
   | plain _ h' => exact absurd rfl (h' l)
   | yield _ l₀ h₀ =>
    have := hle.blk _ _ h₀
    rw [h] at this
    obtain rfl : l' = l₀ := by simpa using this
    exact .yield _ _ h₀
 | _, _, _, .nilfunc, .nilfunc => .nilfunc
 | _, _, _, .iface t v _ h, .iface _ _ _ h' => .iface t v _ (VRel.down hle h h')
 | _, _, _, .niliface, .niliface => .niliface
 | _, _, _, .agg l _ h, .agg _ _ h' => .agg l _ (VRels.down hle h h')
 | _, _, _, .tuple l _ h, .tuple _ _ h' => .tuple l _ (VRels.down hle h h')
theorem VRels.down {Γ Γ₂ : Emb} (hle : Γ.le Γ₂) : ∀ {l u₀ u : List Value}, VRels Γ l u₀ → VRels Γ₂ l u → VRels Γ l u
 | _, _, _, .nil, .nil => .nil
 | _, _, _, .cons _ _ _ _ h t, .cons _ _ _ _ h' t' => .cons _ _ _ _ (VRel.down hle h h') (VRels.down hle t t')
end
inductive PRens (I : Nat → Nat → Prop) (Old : Value → Prop) : List (Value × Value × Nat) → List (Value × Value × Nat) → Prop
 | nil : PRens I Old [] []
 | cons (p q : Value × Value × Nat) (l l' : List (Value × Value × Nat)) (hk : VRen I Old p.1 q.1) (hv : VRen I Old p.2.1 q.2.1) (hb : p.2.2 = q.2.2) (t : PRens I Old l l') : PRens I Old (p :: l) (q :: l')
theorem PRens.rel {I : Nat → Nat → Prop} {Old : Value → Prop} {Γ Γ' : Emb} (hI : ∀ j j', I j j' → Γ'.blk j = Γ.blk j') (hO : ∀ v, Old v → ∀ u, VRel Γ v u → VRel Γ' v u) (hz : Γ'.siz = Γ.siz) :
  ∀ {l l' : List (Value × Value × Nat)} {u : List MapEntry}, PRens I Old l l' → PRels Γ l' u → PRels Γ' l u
 | _, _, _, .nil, .nil => .nil
 | _, _, _, .cons _ _ _ _ hk hv hb t, .cons _ _ _ _ hk' hv' hb' t' => .cons _ _ _ _ (hk.rel hI hO hz hk') (hv.rel hI hO hz hv') (hb.trans hb') (t.rel hI hO hz t')
inductive BRen (I : Nat → Nat → Prop) (Old : Value → Prop) : ABlk → ABlk → Prop
 | cells (l l' : List Value) (ro : Bool) (h : VRens I Old l l') : BRen I Old (.cells (PT.ofList .leaf 0 l) ro) (.cells (PT.ofList .leaf 0 l') ro)
 | map (es es' : List (Value × Value × Nat)) (clk : Nat) (h : PRens I Old es es') : BRen I Old (.map es clk) (.map es' clk)
theorem BRen.rel {I : Nat → Nat → Prop} {Old : Value → Prop} {Γ Γ' : Emb} {w : World} (hI : ∀ j j', I j j' → Γ'.blk j = Γ.blk j') (hO : ∀ v, Old v → ∀ u, VRel Γ v u → VRel Γ' v u) (hz : Γ'.siz = Γ.siz) {B B' : ABlk} {b s : Nat}
  (h : BRen I Old B B') (r : BRel Γ w B' b s) : BRel Γ' w B b s := by
 cases h with
 | cells l l' ro h =>
  obtain ⟨cs, el, fz, h1, h2, h3⟩ := r
  refine ⟨cs, el, fz, h1, h2, fun i v e => ?_⟩
  rw [PT.get_ofList_leaf] at e
  obtain ⟨v', e', q⟩ := h.get e
  obtain ⟨u, e₂, q₂⟩ := h3 i v' (by rw [PT.get_ofList_leaf]; exact e')
  exact ⟨u, e₂, q.rel hI hO hz q₂⟩
 | map es es' clk h =>
  obtain ⟨h0, ents, h1, h2⟩ := r
  exact ⟨h0, ents, h1, h.rel hI hO hz h2⟩
theorem BRen.writable {I : Nat → Nat → Prop} {Old : Value → Prop} {B B' : ABlk} (h : BRen I Old B B') : B.writable ↔ B'.writable := by cases h <;> exact Iff.rfl
theorem PRels.down {Γ Γ₂ : Emb} (hle : Γ.le Γ₂) : ∀ {l : List (Value × Value × Nat)} {u₀ u : List MapEntry}, PRels Γ l u₀ → PRels Γ₂ l u → PRels Γ l u
 | _, _, _, .nil, .nil => .nil
 | _, _, _, .cons _ _ _ _ hk hv hb t, .cons _ _ _ _ hk' hv' hb' t' => .cons _ _ _ _ (VRel.down hle hk hk') (VRel.down hle hv hv') hb' (PRels.down hle t t')
theorem BRel.down {Γ Γ₂ : Emb} (hle : Γ.le Γ₂) {w w₂ : World} {B : ABlk} {b s : Nat} (h₀ : BRel Γ w B b s) (h : BRel Γ₂ w₂ B b s) : BRel Γ w₂ B b s := by
 cases B with
 | cells c ro =>
  obtain ⟨cs₀, el₀, fz₀, _, _, h3₀⟩ := h₀
  obtain ⟨cs, el, fz, h1, h2, h3⟩ := h
  refine ⟨cs, el, fz, h1, h2, fun i v e => ?_⟩
  obtain ⟨u₀, _, q₀⟩ := h3₀ i v e
  obtain ⟨u, e', q⟩ := h3 i v e
  exact ⟨u, e', VRel.down hle q₀ q⟩
 | map es clk =>
  obtain ⟨_, ents₀, _, h2₀⟩ := h₀
  obtain ⟨h0, ents, h1, h2⟩ := h
  exact ⟨h0, ents, h1, PRels.down hle h2₀ h2⟩
 | iter m since seen stepped =>
  obtain ⟨_, m₀, _, _, h3₀⟩ := h₀
  obtain ⟨h0, m', h1, h2, h3⟩ := h
  refine ⟨h0, m', h1, h2, fun r hr => ?_⟩
  obtain ⟨r₀, _, e₀⟩ := h3₀ r hr
  obtain ⟨r', e', e⟩ := h3 r hr
  have := hle.blk _ _ e₀
  rw [e] at this
  obtain rfl : r' = r₀ := by simpa using this
  exact ⟨r', e', e₀⟩
 | loop st pend tm ps as bd =>
  obtain ⟨_, L₀, _, _, _, ht₀, _⟩ := h₀
  obtain ⟨h0, L, h1, h2, h3, ht, h5⟩ := h
  exact ⟨h0, L, h1, h2, h3, ⟨ht.size, fun i => VRel.down hle (ht₀.get i) (ht.get i)⟩, h5⟩
 | deferred => exact h
end Go.Am
