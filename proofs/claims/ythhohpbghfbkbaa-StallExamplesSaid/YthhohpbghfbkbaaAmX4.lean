/-
  The abstract machine, for proofs with variables: regions that draw their order; every access is noted.
-/
import Derived.Test.YthhohpbghfbkbaaAmX3
set_option linter.unusedSimpArgs false
set_option linter.unusedVariables false
namespace Go.Am

/-- As 'run', but every access is noted. -/
def AP.note {α : Type} : AP α → HS → Res α
  | .pure a, s => .ok a s
  | .fail why, _ => .fail why
  | .get id k, s => match s.heap.get id with
    | none => .fail "get"
    | some b => (k b).note { s with rd := id :: s.rd }
  | .set id b k, s => match s.heap.get id with
    | none => .fail "set"
    | some _ => k.note { s with heap := s.heap.set id (some b), wr := id :: s.wr }
  | .kill id k, s => match s.heap.get id with
    | none => .fail "kill"
    | some _ => k.note { s with heap := s.heap.set id none, wr := id :: s.wr }
  | .new b k, s => (k s.next).note { s with heap := s.heap.set s.next (some b), next := Nat.succ s.next }

theorem mem_ins_note {id : Nat} {l l' : List Nat} (hl : ∀ i ∈ l, i ∈ l') {i : Nat} (hi : i ∈ cond true (ins id l) l) : i ∈ id :: l' := by
  simp only [cond_true, ins] at hi
  cases ha : l.any (Nat.beq id) with
  | true => rw [ha] at hi; exact List.mem_cons_of_mem _ (hl i hi)
  | false =>
    rw [ha] at hi
    rcases List.mem_cons.1 hi with rfl | hi
    · exact List.mem_cons_self
    · exact List.mem_cons_of_mem _ (hl i hi)

theorem note_run {α : Type} (lim : Nat) : ∀ (p : AP α) (s : HS) (a : α) (s' : HS), p.note s = .ok a s' → ∀ rd wr, (∀ i ∈ rd, i ∈ s.rd) → (∀ i ∈ wr, i ∈ s.wr) →
    ∃ rd' wr', p.run lim ⟨s.heap, s.next, rd, wr⟩ = .ok a ⟨s'.heap, s'.next, rd', wr'⟩ ∧ (∀ i ∈ rd', i ∈ s'.rd) ∧ (∀ i ∈ wr', i ∈ s'.wr)
  | .pure a, s, b, s', e, rd, wr, h1, h2 => by
    simp only [AP.note, Res.ok.injEq] at e
    obtain ⟨rfl, rfl⟩ := e
    exact ⟨rd, wr, rfl, h1, h2⟩
  | .fail w, s, b, s', e, rd, wr, h1, h2 => by simp [AP.note] at e
  | .get id k, s, b, s', e, rd, wr, h1, h2 => by
    simp only [AP.note] at e
    cases hb : s.heap.get id with
    | none => rw [hb] at e; simp at e
    | some B =>
      rw [hb] at e
      simp only at e
      have := note_run lim (k B) _ b s' e (cond (Nat.blt id lim) (ins id rd) rd) wr (fun i hi => ?_) h2
      · obtain ⟨rd', wr', q, q1, q2⟩ := this
        refine ⟨rd', wr', ?_, q1, q2⟩
        simp only [AP.run, hb]
        cases hl : Nat.blt id lim <;> simp only [hl, cond_true, cond_false] at q ⊢ <;> exact q
      · cases hl : Nat.blt id lim with
        | false => rw [hl] at hi; exact List.mem_cons_of_mem _ (h1 i hi)
        | true =>
          rw [hl] at hi
          exact mem_ins_note h1 hi
  | .set id c k, s, b, s', e, rd, wr, h1, h2 => by
    simp only [AP.note] at e
    cases hb : s.heap.get id with
    | none => rw [hb] at e; simp at e
    | some B =>
      rw [hb] at e
      simp only at e
      have := note_run lim k _ b s' e rd (cond (Nat.blt id lim) (ins id wr) wr) h1 (fun i hi => ?_)
      · obtain ⟨rd', wr', q, q1, q2⟩ := this
        refine ⟨rd', wr', ?_, q1, q2⟩
        simp only [AP.run, hb]
        cases hl : Nat.blt id lim <;> simp only [hl, cond_true, cond_false] at q ⊢ <;> exact q
      · cases hl : Nat.blt id lim with
        | false => rw [hl] at hi; exact List.mem_cons_of_mem _ (h2 i hi)
        | true =>
          rw [hl] at hi
          exact mem_ins_note h2 hi
  | .kill id k, s, b, s', e, rd, wr, h1, h2 => by
    simp only [AP.note] at e
    cases hb : s.heap.get id with
    | none => rw [hb] at e; simp at e
    | some B =>
      rw [hb] at e
      simp only at e
      have := note_run lim k _ b s' e rd (cond (Nat.blt id lim) (ins id wr) wr) h1 (fun i hi => ?_)
      · obtain ⟨rd', wr', q, q1, q2⟩ := this
        refine ⟨rd', wr', ?_, q1, q2⟩
        simp only [AP.run, hb]
        cases hl : Nat.blt id lim <;> simp only [hl, cond_true, cond_false] at q ⊢ <;> exact q
      · cases hl : Nat.blt id lim with
        | false => rw [hl] at hi; exact List.mem_cons_of_mem _ (h2 i hi)
        | true =>
          rw [hl] at hi
          exact mem_ins_note h2 hi
  | .new c k, s, b, s', e, rd, wr, h1, h2 => by
    simp only [AP.note] at e
    exact note_run lim (k s.next) _ b s' e rd wr h1 h2

section
variable (P : Program) (O : Over)

def nextR (x : ANext) (s : HS) : Res Value :=
  match x with
  | .value v => .ok v s
  | .skip => .ok undefV s
  | .enter f args => match O f args with
    | some p => p.note s
    | none => .fail "a call within a region that draws"
  | .round .. => .fail "a round within a region that draws"

def opR (ops : List Oper) (o : Oper) (m : Tm) (s : HS) : Res Tm :=
  bnd (cond (wantedA ops m o) (cond (o.op.operands.toList.all opFlat) (bnd ((aOp P m.eval o).note s) (nextR O)) (.fail "")) (.ok undefV s)) fun v s => putA m o.dst v s

def opsR (ops : List Oper) : List Oper → Tm → PT ABlk → Nat → List Foot → Res (Tm × List Foot)
  | [], m, h, n, fs => .ok (m, fs) (S0 h n)
  | o :: r, m, h, n, fs => bnd (opR P O ops o m ⟨h, n, [], []⟩) fun m s => opsR ops r m s.heap s.next (⟨n, s.next, s.rd, s.wr⟩ :: fs)

variable {P} {O}

theorem opR_op {ev : EvT} {lim : Nat} {ops : List Oper} {o : Oper} {m m' : Tm} {h : PT ABlk} {n : Nat} {s' : HS} (e : opR P O ops o m ⟨h, n, [], []⟩ = .ok m' s') :
    ∃ rd wr, opA P O ev lim ops o m ⟨h, n, [], []⟩ = .ok m' ⟨s'.heap, s'.next, rd, wr⟩ ∧ (∀ i ∈ rd, i ∈ s'.rd) ∧ (∀ i ∈ wr, i ∈ s'.wr) := by
  unfold opR at e
  obtain ⟨v, s₁, e₁, e₂⟩ := bnd_ok e
  have put : ∀ rd wr, ∃ m'', putA m o.dst v ⟨s₁.heap, s₁.next, rd, wr⟩ = .ok m'' ⟨s₁.heap, s₁.next, rd, wr⟩ ∧ m'' = m' ∧ s₁ = s' := by
    intro rd wr
    unfold putA at e₂ ⊢
    cases hp : m.put o.dst v with
    | none => rw [hp] at e₂; simp at e₂
    | some m₁ => rw [hp] at e₂; simp only [Res.ok.injEq] at e₂; exact ⟨m₁, rfl, e₂.1, e₂.2⟩
  unfold opA
  cases hw : wantedA ops m o with
  | false =>
    rw [hw] at e₁
    simp only [cond_false, Res.ok.injEq] at e₁
    obtain ⟨rfl, rfl⟩ := e₁
    obtain ⟨_, q, rfl, rfl⟩ := put [] []
    exact ⟨[], [], by simp only [cond_false, bnd_ok_eq]; exact q, fun i hi => hi, fun i hi => hi⟩
  | true =>
    rw [hw] at e₁
    simp only [cond_true] at e₁
    cases hf : o.op.operands.toList.all opFlat with
    | false => rw [hf] at e₁; simp at e₁
    | true =>
      rw [hf] at e₁
      simp only [cond_true] at e₁
      obtain ⟨x, s₂, e₃, e₄⟩ := bnd_ok e₁
      obtain ⟨rd, wr, q, q1, q2⟩ := note_run lim _ _ _ _ e₃ [] [] (fun i hi => by simp at hi) (fun i hi => by simp at hi)
      have next : ∃ rd' wr', nextA P O ev lim x ⟨s₂.heap, s₂.next, rd, wr⟩ = .ok v ⟨s₁.heap, s₁.next, rd', wr'⟩ ∧ (∀ i ∈ rd', i ∈ s₁.rd) ∧ (∀ i ∈ wr', i ∈ s₁.wr) := by
        cases x with
        | value u => simp only [nextR, Res.ok.injEq] at e₄; obtain ⟨rfl, rfl⟩ := e₄; exact ⟨rd, wr, rfl, q1, q2⟩
        | skip => simp only [nextR, Res.ok.injEq] at e₄; obtain ⟨rfl, rfl⟩ := e₄; exact ⟨rd, wr, rfl, q1, q2⟩
        | enter f args =>
          simp only [nextR] at e₄
          cases hO : O f args with
          | none => rw [hO] at e₄; simp at e₄
          | some p =>
            rw [hO] at e₄
            obtain ⟨rd', wr', u, u1, u2⟩ := note_run lim _ _ _ _ e₄ rd wr q1 q2
            exact ⟨rd', wr', by simp only [nextA, callA, hO]; exact u, u1, u2⟩
        | round l m as bd => simp [nextR] at e₄
      obtain ⟨rd', wr', u, u1, u2⟩ := next
      obtain ⟨_, q3, rfl, rfl⟩ := put rd' wr'
      refine ⟨rd', wr', ?_, u1, u2⟩
      simp only [cond_true, valA, hf, q, bnd_ok_eq, u]
      exact q3

structure FootSub (f g : Foot) : Prop where
  lo : f.lo = g.lo
  hi : f.hi = g.hi
  rd : ∀ i ∈ f.rd, i ∈ g.rd
  wr : ∀ i ∈ f.wr, i ∈ g.wr

inductive FootsSub : List Foot → List Foot → Prop
  | nil : FootsSub [] []
  | cons (f g : Foot) (l l' : List Foot) (h : FootSub f g) (t : FootsSub l l') : FootsSub (f :: l) (g :: l')

theorem FootsSub.get : ∀ {l l' : List Foot}, FootsSub l l' → ∀ i : Nat, (l[i]? = none ∧ l'[i]? = none) ∨ ∃ f g, l[i]? = some f ∧ l'[i]? = some g ∧ FootSub f g
  | _, _, .nil, i => .inl ⟨rfl, rfl⟩
  | _, _, .cons f g l l' h t, 0 => .inr ⟨f, g, rfl, rfl, h⟩
  | _, _, .cons f g l l' h t, i + 1 => by simpa using t.get i

theorem meets_sub {a b a' b' : List Nat} (h1 : ∀ i ∈ a, i ∈ a') (h2 : ∀ i ∈ b, i ∈ b') (h : meets a' b' = false) : meets a b = false := by
  cases hm : meets a b with
  | false => rfl
  | true =>
    simp only [meets, List.any_eq_true] at hm
    obtain ⟨x, hx, y, hy, hxy⟩ := hm
    have : meets a' b' = true := by
      simp only [meets, List.any_eq_true]
      exact ⟨x, h1 x hx, y, h2 y hy, hxy⟩
    rw [h] at this
    exact absurd this (by decide)

theorem meetsRange_sub {a a' : List Nat} {lo hi : Nat} (h1 : ∀ i ∈ a, i ∈ a') (h : meetsRange a' lo hi = false) : meetsRange a lo hi = false := by
  cases hm : meetsRange a lo hi with
  | false => rfl
  | true =>
    simp only [meetsRange, List.any_eq_true] at hm
    obtain ⟨x, hx, hxy⟩ := hm
    have : meetsRange a' lo hi = true := by
      simp only [meetsRange, List.any_eq_true]
      exact ⟨x, h1 x hx, hxy⟩
    rw [h] at this
    exact absurd this (by decide)

theorem clash_sub {f g f' g' : Foot} (h1 : FootSub f f') (h2 : FootSub g g') (h : clash f' g' = false) : clash f g = false := by
  unfold clash at *
  simp only [Bool.or_eq_false_iff] at h ⊢
  obtain ⟨⟨⟨⟨a, b⟩, c⟩, d⟩, e⟩ := h
  rw [h1.lo, h1.hi]
  exact ⟨⟨⟨⟨meets_sub h1.wr h2.wr a, meets_sub h1.wr h2.rd b⟩, meets_sub h1.rd h2.wr c⟩, meetsRange_sub h2.rd d⟩, meetsRange_sub h2.wr e⟩

theorem footsOk_sub {l l' : List Foot} (h : FootsSub l l') {L : List (Nat × Nat)} (k : footsOk l' L = true) : footsOk l L = true := by
  unfold footsOk at *
  rw [List.all_eq_true] at k ⊢
  intro p hp
  have := k p hp
  rcases h.get p.1 with ⟨a, b⟩ | ⟨f, g, a, b, c⟩
  · simp [a, b] at this
  · rcases h.get p.2 with ⟨a', b'⟩ | ⟨f', g', a', b', c'⟩
    · simp [a, b, a', b'] at this
    · simp only [a, b, a', b'] at this ⊢
      simp only [Bool.not_eq_true'] at this ⊢
      exact clash_sub c c' this

theorem opsR_ops {ev : EvT} {ops : List Oper} : ∀ (r : List Oper) {m m' : Tm} {h : PT ABlk} {n : Nat} {fs fs' : List Foot} {s' : HS}, opsR P O ops r m h n fs = .ok (m', fs') s' →
    ∃ F G, opsF P O ev ops r m h n = .ok (m', F) s' ∧ fs' = G.reverse ++ fs ∧ FootsSub F G ∧ s' = S0 s'.heap s'.next
  | [], m, m', h, n, fs, fs', s', e => by
    simp only [opsR, Res.ok.injEq, Prod.mk.injEq] at e
    obtain ⟨⟨rfl, rfl⟩, rfl⟩ := e
    exact ⟨[], [], rfl, rfl, .nil, rfl⟩
  | o :: r, m, m', h, n, fs, fs', s', e => by
    simp only [opsR] at e
    obtain ⟨m₁, s₁, e₁, e₂⟩ := bnd_ok e
    obtain ⟨rd, wr, q, q1, q2⟩ := opR_op (ev := ev) (lim := n) e₁
    obtain ⟨F, G, u, rfl, u1, u2⟩ := opsR_ops (ev := ev) r e₂
    refine ⟨⟨n, s₁.next, rd, wr⟩ :: F, ⟨n, s₁.next, s₁.rd, s₁.wr⟩ :: G, ?_, by simp, .cons _ _ _ _ ⟨rfl, rfl, q1, q2⟩ u1, u2⟩
    simp only [opsF, q, bnd_ok_eq, u]

end

section rules
variable {z : Zx} {K : List KF} {m : Tm} {h : PT ABlk} {n : Nat}

def EvD (z : Zx) (L : List (Nat × Nat)) (ops r : List Oper) (K : List KF) (m : Tm) (h : PT ABlk) (n : Nat) (fs : List Foot) : Prop :=
  m.n = z.N ∧ ∃ m' fs' h' n', opsR z.P z.O ops r m h n fs = .ok (m', fs') (S0 h' n') ∧ footsOk fs'.reverse L = true ∧ Rs z K .normal m' h' n'

def EvX (z : Zx) (L : List (Nat × Nat)) (p : AP ANext) (d : Option Nat) (ops r : List Oper) (K : List KF) (m : Tm) (h : PT ABlk) (n lo : Nat) (rd wr : List Nat) (fs : List Foot) : Prop :=
  m.n = z.N ∧ ∃ m' fs' h' n', bnd (p.note ⟨h, n, rd, wr⟩) (fun x s => bnd (nextR z.O x s) fun v s => bnd (putA m d v s) fun m s => opsR z.P z.O ops r m s.heap s.next (⟨lo, s.next, s.rd, s.wr⟩ :: fs)) = .ok (m', fs') (S0 h' n') ∧
    footsOk fs'.reverse L = true ∧ Rs z K .normal m' h' n'

theorem EvK_draw {id : Nat} {ops : Array Oper} {L : List (Nat × Nat)} (hL : loosePairs (ancestors [] ops.toList) ops.toList.length = L) (hd : drawOk ops.toList L = true) (e : EvD z L ops.toList ops.toList K m h n []) :
    EvK z (.region id ops true) K m h n := by
  obtain ⟨hm, m', fs', h', n', e, hf, r⟩ := e
  refine ⟨hm, 1, (.normal, m'), h', n', ?_, r⟩
  obtain ⟨F, G, q, rfl, q1, _⟩ := opsR_ops (ev := evC z.P z.O 0) _ e
  rw [evC_succ]
  simp only [stepC, cond_true]
  have : drawA z.P z.O (evC z.P z.O 0) 0 ops.toList m (S0 h n) = .ok m' (S0 h' n') := by
    unfold drawA
    simp only [hL, hd, cond_true]
    rw [show (S0 h n).heap = h from rfl, show (S0 h n).next = n from rfl, q]
    simp only [bnd_ok_eq]
    rw [footsOk_sub q1 (by simpa using hf)]
    rfl
  rw [this]
  rfl

theorem EvD_nil {L : List (Nat × Nat)} {ops : List Oper} {fs : List Foot} : EvD z L ops [] K m h n fs ↔ footsOk fs.reverse L = true ∧ Rs z K .normal m h n := by
  constructor
  · rintro ⟨hm, m', fs', h', n', e, hf, r⟩
    simp only [opsR, Res.ok.injEq, Prod.mk.injEq, S0, HS.mk.injEq] at e
    obtain ⟨⟨rfl, rfl⟩, rfl, rfl, _⟩ := e
    exact ⟨hf, r⟩
  · rintro ⟨hf, r⟩
    exact ⟨Rs_n r, m, fs, h, n, rfl, hf, r⟩

def EvH (z : Zx) (L : List (Nat × Nat)) (w : Bool) (o : Oper) (ops r : List Oper) (K : List KF) (m : Tm) (h : PT ABlk) (n : Nat) (fs : List Foot) : Prop :=
  cond w (o.op.operands.toList.all opFlat = true ∧ EvX z L (aOp z.P m.eval o) o.dst ops r K m h n n [] [] fs) (EvX z L (.pure .skip) o.dst ops r K m h n n [] [] fs)

theorem EvD_cons {L : List (Nat × Nat)} {o : Oper} {ops r : List Oper} {fs : List Foot} : EvD z L ops (o :: r) K m h n fs ↔ EvH z L (wantedA ops m o) o ops r K m h n fs := by
  unfold EvH
  cases hw : wantedA ops m o with
  | false =>
    simp only [cond_false]
    refine and_congr_right fun hm => ?_
    simp only [opsR, opR, hw, cond_false, AP.note, bnd_ok_eq, nextR]
  | true =>
    simp only [cond_true]
    constructor
    · rintro ⟨hm, m', fs', h', n', e, r⟩
      simp only [opsR, opR, hw, cond_true] at e
      cases hf : o.op.operands.toList.all opFlat with
      | false => rw [hf] at e; simp [bnd] at e
      | true =>
        rw [hf] at e
        simp only [cond_true, bnd_assoc] at e
        exact ⟨rfl, hm, m', fs', h', n', e, r⟩
    · rintro ⟨hf, hm, m', fs', h', n', e, r⟩
      refine ⟨hm, m', fs', h', n', ?_, r⟩
      simp only [opsR, opR, hw, cond_true, hf, bnd_assoc]
      exact e

variable {L : List (Nat × Nat)} {d : Option Nat} {ops r : List Oper} {lo : Nat} {rd wr : List Nat} {fs : List Foot}

theorem EvH_true {o : Oper} : EvH z L true o ops r K m h n fs ↔ o.op.operands.toList.all opFlat = true ∧ EvX z L (aOp z.P m.eval o) o.dst ops r K m h n n [] [] fs := Iff.rfl
theorem EvH_false {o : Oper} : EvH z L false o ops r K m h n fs ↔ EvX z L (.pure .skip) o.dst ops r K m h n n [] [] fs := Iff.rfl

theorem EvX_value {i : Nat} {v : Value} : EvX z L (.pure (.value v)) (some i) ops r K m h n lo rd wr fs ↔ i < z.N ∧ EvD z L ops r K (up m i v) h n (⟨lo, n, rd, wr⟩ :: fs) := by
  unfold EvX EvD
  simp only [AP.note, bnd_ok_eq, nextR, putA, Tm.put, up_n]
  constructor
  · rintro ⟨hm, m', fs', h', n', e, q⟩
    cases hb : Nat.blt i m.n with
    | false => rw [hb] at e; simp [bnd] at e
    | true =>
      rw [hb] at e
      have := Nat.le_of_ble_eq_true hb
      exact ⟨by omega, hm, m', fs', h', n', e, q⟩
  · rintro ⟨hi, hm, m', fs', h', n', e, q⟩
    have hb : Nat.blt i m.n = true := Nat.ble_eq_true_of_le (by omega)
    exact ⟨hm, m', fs', h', n', by rw [hb]; exact e, q⟩

theorem EvX_value' {v : Value} : EvX z L (.pure (.value v)) none ops r K m h n lo rd wr fs ↔ EvD z L ops r K m h n (⟨lo, n, rd, wr⟩ :: fs) := Iff.rfl
theorem EvX_skip {i : Nat} : EvX z L (.pure .skip) (some i) ops r K m h n lo rd wr fs ↔ i < z.N ∧ EvD z L ops r K (up m i undefV) h n (⟨lo, n, rd, wr⟩ :: fs) := EvX_value (v := undefV)
theorem EvX_skip' : EvX z L (.pure .skip) none ops r K m h n lo rd wr fs ↔ EvD z L ops r K m h n (⟨lo, n, rd, wr⟩ :: fs) := Iff.rfl
theorem EvX_fail {w : String} : EvX z L (.fail w) d ops r K m h n lo rd wr fs ↔ False := by
  constructor
  · rintro ⟨_, m', fs', h', n', e, _⟩; simp [AP.note, bnd] at e
  · exact False.elim

def EvXL (z : Zx) (L : List (Nat × Nat)) (b : Option ABlk) (f : ABlk → AP ANext) (d : Option Nat) (ops r : List Oper) (K : List KF) (m : Tm) (h : PT ABlk) (n lo : Nat) (rd wr : List Nat) (fs : List Foot) : Prop :=
  match b with
  | some b => EvX z L (f b) d ops r K m h n lo rd wr fs
  | none => False

theorem EvX_get {id : Nat} {f : ABlk → AP ANext} : EvX z L (.get id f) d ops r K m h n lo rd wr fs ↔ EvXL z L (h.get id) f d ops r K m h n lo (id :: rd) wr fs := by
  unfold EvXL EvX
  simp only [AP.note]
  cases hb : h.get id with
  | none => simp [bnd]
  | some b => exact Iff.rfl

theorem EvXL_some {b : ABlk} {f : ABlk → AP ANext} : EvXL z L (some b) f d ops r K m h n lo rd wr fs ↔ EvX z L (f b) d ops r K m h n lo rd wr fs := Iff.rfl

def EvXS (z : Zx) (L : List (Nat × Nat)) (o : Option ABlk) (id : Nat) (b : Option ABlk) (p : AP ANext) (d : Option Nat) (ops r : List Oper) (K : List KF) (m : Tm) (h : PT ABlk) (n lo : Nat) (rd wr : List Nat) (fs : List Foot) : Prop :=
  match o with
  | some _ => EvX z L p d ops r K m (h.set id b) n lo rd wr fs
  | none => False

theorem EvX_set {id : Nat} {b : ABlk} {p : AP ANext} : EvX z L (.set id b p) d ops r K m h n lo rd wr fs ↔ EvXS z L (h.get id) id (some b) p d ops r K m h n lo rd (id :: wr) fs := by
  unfold EvXS EvX
  simp only [AP.note]
  cases hb : h.get id with
  | none => simp [bnd]
  | some c => exact Iff.rfl

theorem EvX_kill {id : Nat} {p : AP ANext} : EvX z L (.kill id p) d ops r K m h n lo rd wr fs ↔ EvXS z L (h.get id) id none p d ops r K m h n lo rd (id :: wr) fs := by
  unfold EvXS EvX
  simp only [AP.note]
  cases hb : h.get id with
  | none => simp [bnd]
  | some c => exact Iff.rfl

theorem EvXS_some {c : ABlk} {id : Nat} {b : Option ABlk} {p : AP ANext} : EvXS z L (some c) id b p d ops r K m h n lo rd wr fs ↔ EvX z L p d ops r K m (h.set id b) n lo rd wr fs := Iff.rfl

theorem EvX_new {b : ABlk} {f : Nat → AP ANext} : EvX z L (.new b f) d ops r K m h n lo rd wr fs ↔ EvX z L (f n) d ops r K m (h.set n (some b)) (n + 1) lo rd wr fs := Iff.rfl

theorem note_bind {α β : Type} : ∀ (p : AP α) (f : α → AP β) (s : HS), (p.bind f).note s = bnd (p.note s) fun a s => (f a).note s
  | .pure a, f, s => rfl
  | .fail w, f, s => rfl
  | .get id k, f, s => by
    simp only [AP.bind, AP.note]
    cases s.heap.get id with
    | none => rfl
    | some b => exact note_bind (k b) f _
  | .set id b k, f, s => by
    simp only [AP.bind, AP.note]
    cases s.heap.get id with
    | none => rfl
    | some _ => exact note_bind k f _
  | .kill id k, f, s => by
    simp only [AP.bind, AP.note]
    cases s.heap.get id with
    | none => rfl
    | some _ => exact note_bind k f _
  | .new b k, f, s => by
    simp only [AP.bind, AP.note]
    exact note_bind (k s.next) f _

def EvXQ (z : Zx) (L : List (Nat × Nat)) (s : Option (AP Value)) (f : FuncId) (args : List Value) (d : Option Nat) (ops r : List Oper) (K : List KF) (m : Tm) (h : PT ABlk) (n lo : Nat) (rd wr : List Nat) (fs : List Foot) : Prop :=
  match s with
  | some p => EvX z L (p.bind fun v => .pure (.value v)) d ops r K m h n lo rd wr fs
  | none => False

theorem EvX_enter {f : FuncId} {args : List Value} : EvX z L (.pure (.enter f args)) d ops r K m h n lo rd wr fs ↔ EvXQ z L (z.O f args) f args d ops r K m h n lo rd wr fs := by
  unfold EvXQ
  cases hO : z.O f args with
  | none =>
    constructor
    · rintro ⟨_, m', fs', h', n', e, _⟩; simp [AP.note, bnd, nextR, hO] at e
    · exact False.elim
  | some p => simp only [EvX, note_bind, bnd_assoc, AP.note, bnd_ok_eq, nextR, hO]

theorem EvXQ_some {p : AP Value} {f : FuncId} {args : List Value} : EvXQ z L (some p) f args d ops r K m h n lo rd wr fs ↔ EvX z L (p.bind fun v => .pure (.value v)) d ops r K m h n lo rd wr fs := Iff.rfl

end rules
end Go.Am
