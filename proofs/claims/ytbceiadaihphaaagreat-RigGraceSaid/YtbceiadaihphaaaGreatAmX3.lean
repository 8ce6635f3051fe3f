/-
  The abstract machine, for proofs with variables: the rules.
-/
import Derived.Test.YtbceiadaihphaaaGreatAmX2
set_option linter.unusedSimpArgs false
set_option linter.unusedVariables false
namespace Go.Am
section size
variable {P : Program} {O : Over} {ev : EvT}
def NE (ev : EvT) : Prop := ∀ ro lim c m s x s', ev ro lim c m s = .ok x s' → x.2.n = m.n
theorem put_n {m m' : Tm} {d : Option Nat} {v : Value} (e : m.put d v = some m') : m'.n = m.n := by
 unfold Tm.put at e
 cases d with
 | none => simp only [Option.some.injEq] at e; rw [← e]
 | some i =>
  simp only at e
  cases hb : Nat.blt i m.n with
  | false => rw [hb] at e; simp at e
  | true => rw [hb] at e; simp only [cond_true, Option.some.injEq] at e; rw [← e]
theorem op_n {lim : Nat} {ops : List Oper} {o : Oper} {m m' : Tm} {s s' : HS} (e : opA P O ev lim ops o m s = .ok m' s') : m'.n = m.n := by
 unfold opA at e
 obtain ⟨v, s₁, _, e₂⟩ := bnd_ok e
 unfold putA at e₂
 cases hp : m.put o.dst v with
 | none => rw [hp] at e₂; simp at e₂
 | some m₁ => rw [hp] at e₂; simp only [Res.ok.injEq] at e₂; rw [← e₂.1]; exact put_n hp
theorem ops_n {lim : Nat} {ops : List Oper} : ∀ (r : List Oper) {m m' : Tm} {s s' : HS}, opsA P O ev lim ops r m s = .ok m' s' → m'.n = m.n
 | [], m, m', s, s', e => by simp only [opsA, Res.ok.injEq] at e; rw [e.1]
 | o :: r, m, m', s, s', e => by
  simp only [opsA] at e
  obtain ⟨v, s₁, e₁, e₂⟩ := bnd_ok e
  rw [ops_n r e₂, op_n e₁]
theorem opsF_n {ops : List Oper} : ∀ (r : List Oper) {m : Tm} {H : PT ABlk} {n : Nat} {x : Tm × List Foot} {s' : HS}, opsF P O ev ops r m H n = .ok x s' → x.1.n = m.n
 | [], m, H, n, x, s', e => by simp only [opsF, Res.ok.injEq] at e; rw [← e.1]
 | o :: r, m, H, n, x, s', e => by
  simp only [opsF] at e
  obtain ⟨v, s₁, e₁, e₂⟩ := bnd_ok e
  obtain ⟨y, s₂, e₃, e₄⟩ := bnd_ok e₂
  simp only [Res.ok.injEq] at e₄
  rw [← e₄.1]
  show y.1.n = m.n
  rw [opsF_n r e₃, op_n e₁]
theorem draw_n {lim : Nat} {ops : List Oper} {m m' : Tm} {s s' : HS} (e : drawA P O ev lim ops m s = .ok m' s') : m'.n = m.n := by
 unfold drawA at e
 cases hd : drawOk ops (loosePairs (ancestors [] ops) ops.length) with
 | false => rw [hd] at e; simp at e
 | true =>
  rw [hd] at e
  simp only [cond_true] at e
  obtain ⟨x, s₁, e₁, e₂⟩ := bnd_ok e
  cases hf : footsOk x.2 (loosePairs (ancestors [] ops) ops.length) with
  | false => rw [hf] at e₂; simp at e₂
  | true => rw [hf] at e₂; simp only [cond_true, Res.ok.injEq] at e₂; rw [← e₂.1]; exact opsF_n ops e₁
theorem step_n (h : NE ev) : NE (stepC P O ev) := by
 intro ro lim c m s x s' e
 cases c with
 | skip => simp only [stepC, Res.ok.injEq] at e; rw [← e.1]
 | label l => simp only [stepC, Res.ok.injEq] at e; rw [← e.1]
 | exit id => simp only [stepC, Res.ok.injEq] at e; rw [← e.1]
 | ret => simp only [stepC, Res.ok.injEq] at e; rw [← e.1]
 | goto l => simp [stepC] at e
 | refuse w => simp [stepC] at e
 | scope c => exact h _ _ _ _ _ _ _ e
 | region id ops draw =>
  simp only [stepC] at e
  obtain ⟨m', s₁, e₁, e₂⟩ := bnd_ok e
  simp only [Res.ok.injEq] at e₂
  rw [← e₂.1]
  cases draw with
  | true => exact draw_n e₁
  | false => exact ops_n _ e₁
 | seq a b =>
  simp only [stepC] at e
  obtain ⟨y, s₁, e₁, e₂⟩ := bnd_ok e
  have := h _ _ _ _ _ _ _ e₁
  cases hy : y.1 with
  | normal => simp only [hy] at e₂; rw [h _ _ _ _ _ _ _ e₂, this]
  | exit i => simp only [hy, Res.ok.injEq] at e₂; rw [← e₂.1, this]
  | ret => simp only [hy, Res.ok.injEq] at e₂; rw [← e₂.1, this]
 | loop c =>
  simp only [stepC] at e
  obtain ⟨y, s₁, e₁, e₂⟩ := bnd_ok e
  have := h _ _ _ _ _ _ _ e₁
  cases hy : y.1 with
  | normal => simp only [hy] at e₂; rw [h _ _ _ _ _ _ _ e₂, this]
  | exit i => simp only [hy, Res.ok.injEq] at e₂; rw [← e₂.1, this]
  | ret => simp only [hy, Res.ok.injEq] at e₂; rw [← e₂.1, this]
 | cond c a b =>
  simp only [stepC] at e
  cases hg : opFlat c with
  | false => rw [hg] at e; simp at e
  | true =>
   rw [hg] at e
   simp only [cond_true] at e
   generalize m.eval c = z at e
   cases z with
   | bool t => cases t <;> exact h _ _ _ _ _ _ _ e
   | _ => simp at e
 | block id c =>
  simp only [stepC] at e
  obtain ⟨y, s₁, e₁, e₂⟩ := bnd_ok e
  have := h _ _ _ _ _ _ _ e₁
  cases hy : y.1 with
  | normal => simp only [hy, Res.ok.injEq] at e₂; rw [← e₂.1, this]
  | exit i => simp only [hy, Res.ok.injEq] at e₂; rw [← e₂.1]; exact this
  | ret => simp only [hy, Res.ok.injEq] at e₂; rw [← e₂.1, this]
 | rangeFunc g ps as bd =>
  simp only [stepC] at e
  unfold rangeA at e
  cases hg : opFlat g with
  | false => rw [hg] at e; simp at e
  | true =>
   rw [hg] at e
   simp only [cond_true] at e
   obtain ⟨_, _, _, e⟩ := bnd_ok e
   obtain ⟨_, _, _, e⟩ := bnd_ok e
   obtain ⟨_, _, _, e⟩ := bnd_ok e
   obtain ⟨_, _, _, e⟩ := bnd_ok e
   simp only [Res.ok.injEq] at e
   rw [← e.1]
theorem evC_n : ∀ k, NE (evC P O k)
 | 0 => fun ro lim c m s x s' e => by
  have e : (Res.fail "fuel" : Res (AExit × Tm)) = .ok x s' := e
  simp at e
 | k + 1 => step_n (evC_n k)
end size
section rules
variable {z : Zx} {K : List KF} {m : Tm} {h : PT ABlk} {n : Nat} {R : AExit → Tm → PT ABlk → Nat → Prop}
theorem ok_S0 {c : Code} {k : Nat} {ro : Option Nat} {x : AExit × Tm} {s : HS} (e : evC z.P z.O k ro 0 c m (S0 h n) = .ok x s) : s = S0 s.heap s.next := q0_evC k ro c m h n x s e
theorem Ev_skip : Ev z .skip m h n R ↔ m.n = z.N ∧ R .normal m h n := by
 refine and_congr_right fun hm => ⟨?_, fun r => ⟨1, (.normal, m), h, n, rfl, r⟩⟩
 rintro ⟨k, x, h', n', e, r⟩
 cases k with
 | zero => have e : (Res.fail "fuel" : Res (AExit × Tm)) = .ok x (S0 h' n') := e; simp at e
 | succ k => have e : (Res.ok (AExit.normal, m) (S0 h n) : Res (AExit × Tm)) = .ok x (S0 h' n') := e; simp only [S0, Res.ok.injEq, HS.mk.injEq] at e; obtain ⟨rfl, rfl, rfl, _⟩ := e; exact r
theorem Ev_label {l : Nat} : Ev z (.label l) m h n R ↔ m.n = z.N ∧ R .normal m h n := by
 refine and_congr_right fun hm => ⟨?_, fun r => ⟨1, (.normal, m), h, n, rfl, r⟩⟩
 rintro ⟨k, x, h', n', e, r⟩
 cases k with
 | zero => have e : (Res.fail "fuel" : Res (AExit × Tm)) = .ok x (S0 h' n') := e; simp at e
 | succ k => have e : (Res.ok (AExit.normal, m) (S0 h n) : Res (AExit × Tm)) = .ok x (S0 h' n') := e; simp only [S0, Res.ok.injEq, HS.mk.injEq] at e; obtain ⟨rfl, rfl, rfl, _⟩ := e; exact r
theorem Ev_exit {i : Nat} : Ev z (.exit i) m h n R ↔ m.n = z.N ∧ R (.exit i) m h n := by
 refine and_congr_right fun hm => ⟨?_, fun r => ⟨1, (.exit i, m), h, n, rfl, r⟩⟩
 rintro ⟨k, x, h', n', e, r⟩
 cases k with
 | zero => have e : (Res.fail "fuel" : Res (AExit × Tm)) = .ok x (S0 h' n') := e; simp at e
 | succ k => have e : (Res.ok (AExit.exit i, m) (S0 h n) : Res (AExit × Tm)) = .ok x (S0 h' n') := e; simp only [S0, Res.ok.injEq, HS.mk.injEq] at e; obtain ⟨rfl, rfl, rfl, _⟩ := e; exact r
theorem Ev_ret : Ev z .ret m h n R ↔ m.n = z.N ∧ R .ret m h n := by
 refine and_congr_right fun hm => ⟨?_, fun r => ⟨1, (.ret, m), h, n, rfl, r⟩⟩
 rintro ⟨k, x, h', n', e, r⟩
 cases k with
 | zero => have e : (Res.fail "fuel" : Res (AExit × Tm)) = .ok x (S0 h' n') := e; simp at e
 | succ k => have e : (Res.ok (AExit.ret, m) (S0 h n) : Res (AExit × Tm)) = .ok x (S0 h' n') := e; simp only [S0, Res.ok.injEq, HS.mk.injEq] at e; obtain ⟨rfl, rfl, rfl, _⟩ := e; exact r
theorem Ev_scope {c : Code} : Ev z (.scope c) m h n R ↔ Ev z c m h n R := by
 refine and_congr_right fun hm => ⟨?_, ?_⟩
 ·rintro ⟨k, x, h', n', e, r⟩
  cases k with
  | zero => have e : (Res.fail "fuel" : Res (AExit × Tm)) = .ok x (S0 h' n') := e; simp at e
  | succ k => exact ⟨k, x, h', n', e, r⟩
 ·rintro ⟨k, x, h', n', e, r⟩
  exact ⟨k + 1, x, h', n', e, r⟩
theorem Ev_seq {a b : Code} : Ev z (.seq a b) m h n R ↔ Ev z a m h n (fun e m h n => match e with | .normal => Ev z b m h n R | _ => R e m h n) := by
 refine and_congr_right fun hm => ⟨?_, ?_⟩
 ·rintro ⟨k, x, h', n', e, r⟩
  cases k with
  | zero => have e : (Res.fail "fuel" : Res (AExit × Tm)) = .ok x (S0 h' n') := e; simp at e
  | succ k =>
   rw [evC_succ] at e
   simp only [stepC] at e
   obtain ⟨y, s₁, e₁, e₂⟩ := bnd_ok e
   have hs := ok_S0 e₁
   refine ⟨k, y, s₁.heap, s₁.next, hs ▸ e₁, ?_⟩
   cases hy : y.1 with
   | normal => simp only [hy] at e₂ ⊢; exact ⟨(evC_n k _ _ _ _ _ _ _ e₁).trans hm, k, x, h', n', hs ▸ e₂, r⟩
   | exit i => simp only [hy, Res.ok.injEq] at e₂ ⊢; obtain ⟨rfl, rfl⟩ := e₂; rw [hy] at r; exact r
   | ret => simp only [hy, Res.ok.injEq] at e₂ ⊢; obtain ⟨rfl, rfl⟩ := e₂; rw [hy] at r; exact r
 ·rintro ⟨k, y, h₁, n₁, e₁, r⟩
  cases hy : y.1 with
  | normal =>
   simp only [hy] at r
   obtain ⟨_, k₂, x, h', n', e₂, r⟩ := r
   refine ⟨max k k₂ + 1, x, h', n', ?_, r⟩
   rw [evC_succ]
   simp only [stepC]
   rw [evC_mono (Nat.le_max_left k k₂) _ _ _ _ _ _ _ e₁, bnd_ok_eq]
   simp only [hy]
   exact evC_mono (Nat.le_max_right k k₂) _ _ _ _ _ _ _ e₂
  | exit i =>
   simp only [hy] at r
   refine ⟨k + 1, y, h₁, n₁, ?_, by rw [hy]; exact r⟩
   rw [evC_succ]; simp only [stepC]; rw [e₁, bnd_ok_eq]; simp only [hy]
  | ret =>
   simp only [hy] at r
   refine ⟨k + 1, y, h₁, n₁, ?_, by rw [hy]; exact r⟩
   rw [evC_succ]; simp only [stepC]; rw [e₁, bnd_ok_eq]; simp only [hy]
theorem Ev_loop {c : Code} : Ev z (.loop c) m h n R ↔ Ev z c m h n (fun e m h n => match e with | .normal => Ev z (.loop c) m h n R | _ => R e m h n) := by
 refine and_congr_right fun hm => ⟨?_, ?_⟩
 ·rintro ⟨k, x, h', n', e, r⟩
  cases k with
  | zero => have e : (Res.fail "fuel" : Res (AExit × Tm)) = .ok x (S0 h' n') := e; simp at e
  | succ k =>
   rw [evC_succ] at e
   simp only [stepC] at e
   obtain ⟨y, s₁, e₁, e₂⟩ := bnd_ok e
   have hs := ok_S0 e₁
   refine ⟨k, y, s₁.heap, s₁.next, hs ▸ e₁, ?_⟩
   cases hy : y.1 with
   | normal => simp only [hy] at e₂ ⊢; exact ⟨(evC_n k _ _ _ _ _ _ _ e₁).trans hm, k, x, h', n', hs ▸ e₂, r⟩
   | exit i => simp only [hy, Res.ok.injEq] at e₂ ⊢; obtain ⟨rfl, rfl⟩ := e₂; rw [hy] at r; exact r
   | ret => simp only [hy, Res.ok.injEq] at e₂ ⊢; obtain ⟨rfl, rfl⟩ := e₂; rw [hy] at r; exact r
 ·rintro ⟨k, y, h₁, n₁, e₁, r⟩
  cases hy : y.1 with
  | normal =>
   simp only [hy] at r
   obtain ⟨_, k₂, x, h', n', e₂, r⟩ := r
   refine ⟨max k k₂ + 1, x, h', n', ?_, r⟩
   rw [evC_succ]
   simp only [stepC]
   rw [evC_mono (Nat.le_max_left k k₂) _ _ _ _ _ _ _ e₁, bnd_ok_eq]
   simp only [hy]
   exact evC_mono (Nat.le_max_right k k₂) _ _ _ _ _ _ _ e₂
  | exit i =>
   simp only [hy] at r
   refine ⟨k + 1, y, h₁, n₁, ?_, by rw [hy]; exact r⟩
   rw [evC_succ]; simp only [stepC]; rw [e₁, bnd_ok_eq]; simp only [hy]
  | ret =>
   simp only [hy] at r
   refine ⟨k + 1, y, h₁, n₁, ?_, by rw [hy]; exact r⟩
   rw [evC_succ]; simp only [stepC]; rw [e₁, bnd_ok_eq]; simp only [hy]
theorem Ev_block {id : Nat} {c : Code} : Ev z (.block id c) m h n R ↔ Ev z c m h n (fun e m h n => match e with | .exit i => R (cond (Nat.beq i id) .normal (.exit i)) m h n | _ => R e m h n) := by
 refine and_congr_right fun hm => ⟨?_, ?_⟩
 ·rintro ⟨k, x, h', n', e, r⟩
  cases k with
  | zero => have e : (Res.fail "fuel" : Res (AExit × Tm)) = .ok x (S0 h' n') := e; simp at e
  | succ k =>
   rw [evC_succ] at e
   simp only [stepC] at e
   obtain ⟨y, s₁, e₁, e₂⟩ := bnd_ok e
   have hs := ok_S0 e₁
   refine ⟨k, y, s₁.heap, s₁.next, hs ▸ e₁, ?_⟩
   cases hy : y.1 with
   | normal => simp only [hy, Res.ok.injEq] at e₂ ⊢; obtain ⟨rfl, rfl⟩ := e₂; rw [hy] at r; exact r
   | exit i => simp only [hy, Res.ok.injEq] at e₂ ⊢; obtain ⟨rfl, rfl⟩ := e₂; exact r
   | ret => simp only [hy, Res.ok.injEq] at e₂ ⊢; obtain ⟨rfl, rfl⟩ := e₂; rw [hy] at r; exact r
 ·rintro ⟨k, y, h₁, n₁, e₁, r⟩
  cases hy : y.1 with
  | normal =>
   simp only [hy] at r
   refine ⟨k + 1, y, h₁, n₁, ?_, by rw [hy]; exact r⟩
   rw [evC_succ]; simp only [stepC]; rw [e₁, bnd_ok_eq]; simp only [hy]
  | exit i =>
   simp only [hy] at r
   refine ⟨k + 1, (cond (Nat.beq i id) .normal (.exit i), y.2), h₁, n₁, ?_, r⟩
   rw [evC_succ]; simp only [stepC]; rw [e₁, bnd_ok_eq]; simp only [hy]
  | ret =>
   simp only [hy] at r
   refine ⟨k + 1, y, h₁, n₁, ?_, by rw [hy]; exact r⟩
   rw [evC_succ]; simp only [stepC]; rw [e₁, bnd_ok_eq]; simp only [hy]
theorem Ev_cond {c : Operand} {a b : Code} : Ev z (.cond c a b) m h n R ↔ opFlat c = true ∧ ∃ t, m.eval c = .bool t ∧ Ev z (cond t a b) m h n R := by
 constructor
 ·rintro ⟨hm, k, x, h', n', e, r⟩
  cases k with
  | zero => have e : (Res.fail "fuel" : Res (AExit × Tm)) = .ok x (S0 h' n') := e; simp at e
  | succ k =>
   rw [evC_succ] at e
   simp only [stepC] at e
   cases hg : opFlat c with
   | false => rw [hg] at e; simp at e
   | true =>
    rw [hg] at e
    simp only [cond_true] at e
    refine ⟨rfl, ?_⟩
    generalize m.eval c = v at e ⊢
    cases v with
    | bool t => cases t <;> exact ⟨_, rfl, hm, k, x, h', n', e, r⟩
    | _ => simp at e
 ·rintro ⟨hg, t, ht, hm, k, x, h', n', e, r⟩
  refine ⟨hm, k + 1, x, h', n', ?_, r⟩
  rw [evC_succ]
  simp only [stepC, hg, cond_true, ht]
  cases t <;> exact e
theorem EvK_seq {a b : Code} : EvK z (.seq a b) K m h n ↔ EvK z a (.seq b :: K) m h n := by
 unfold EvK
 rw [Ev_seq]
 refine ⟨Ev.mono fun e m h n r => ?_, Ev.mono fun e m h n r => ?_⟩ <;> cases e <;> exact r
theorem EvK_block {id : Nat} {c : Code} : EvK z (.block id c) K m h n ↔ EvK z c (.block id :: K) m h n := by
 unfold EvK
 rw [Ev_block]
 refine ⟨Ev.mono fun e m h n r => ?_, Ev.mono fun e m h n r => ?_⟩ <;> cases e <;> exact r
theorem EvK_loop {c : Code} : EvK z (.loop c) K m h n ↔ EvK z c (.loop c :: K) m h n := by
 unfold EvK
 rw [Ev_loop]
 refine ⟨Ev.mono fun e m h n r => ?_, Ev.mono fun e m h n r => ?_⟩ <;> cases e <;> exact r
theorem EvK_scope {c : Code} : EvK z (.scope c) K m h n ↔ EvK z c K m h n := Ev_scope
theorem Rs_n : ∀ {K : List KF} {e : AExit}, Rs z K e m h n → m.n = z.N
 | [], e, r => r.1
 | .seq c :: K, e, r => by cases e <;> first | exact r.1 | exact Rs_n (K := K) r
 | .block id :: K, e, r => by cases e <;> exact Rs_n (K := K) r
 | .loop c :: K, e, r => by cases e <;> first | exact r.1 | exact Rs_n (K := K) r
theorem EvK_skip : EvK z .skip K m h n ↔ Rs z K .normal m h n := Ev_skip.trans ⟨fun r => r.2, fun r => ⟨Rs_n r, r⟩⟩
theorem EvK_label {l : Nat} : EvK z (.label l) K m h n ↔ Rs z K .normal m h n := Ev_label.trans ⟨fun r => r.2, fun r => ⟨Rs_n r, r⟩⟩
theorem EvK_exit {i : Nat} : EvK z (.exit i) K m h n ↔ Rs z K (.exit i) m h n := Ev_exit.trans ⟨fun r => r.2, fun r => ⟨Rs_n r, r⟩⟩
theorem EvK_ret : EvK z .ret K m h n ↔ Rs z K .ret m h n := Ev_ret.trans ⟨fun r => r.2, fun r => ⟨Rs_n r, r⟩⟩
theorem Rs_seq {c : Code} : Rs z (.seq c :: K) .normal m h n ↔ EvK z c K m h n := Iff.rfl
theorem Rs_seq_exit {c : Code} {i : Nat} : Rs z (.seq c :: K) (.exit i) m h n ↔ Rs z K (.exit i) m h n := Iff.rfl
theorem Rs_seq_ret {c : Code} : Rs z (.seq c :: K) .ret m h n ↔ Rs z K .ret m h n := Iff.rfl
theorem Rs_block {id : Nat} : Rs z (.block id :: K) .normal m h n ↔ Rs z K .normal m h n := Iff.rfl
theorem Rs_block_ret {id : Nat} : Rs z (.block id :: K) .ret m h n ↔ Rs z K .ret m h n := Iff.rfl
theorem Rs_block_exit {id i : Nat} : Rs z (.block id :: K) (.exit i) m h n ↔ Rs z K (cond (Nat.beq i id) .normal (.exit i)) m h n := Iff.rfl
theorem Rs_loop {c : Code} : Rs z (.loop c :: K) .normal m h n ↔ EvK z (.loop c) K m h n := Iff.rfl
theorem Rs_loop_exit {c : Code} {i : Nat} : Rs z (.loop c :: K) (.exit i) m h n ↔ Rs z K (.exit i) m h n := Iff.rfl
theorem Rs_loop_ret {c : Code} : Rs z (.loop c :: K) .ret m h n ↔ Rs z K .ret m h n := Iff.rfl
theorem Rs_nil {e : AExit} : Rs z [] e m h n ↔ m.n = z.N ∧ z.Q e m h n := Iff.rfl
def EvC (z : Zx) (v : Value) (a b : Code) (K : List KF) (m : Tm) (h : PT ABlk) (n : Nat) : Prop := ∃ t, v = .bool t ∧ EvK z (cond t a b) K m h n
theorem EvK_cond {c : Operand} {a b : Code} : EvK z (.cond c a b) K m h n ↔ opFlat c = true ∧ EvC z (m.eval c) a b K m h n := Ev_cond
theorem EvC_true {a b : Code} : EvC z (.bool true) a b K m h n ↔ EvK z a K m h n := ⟨fun ⟨t, e, r⟩ => by cases e; exact r, fun r => ⟨true, rfl, r⟩⟩
theorem EvC_false {a b : Code} : EvC z (.bool false) a b K m h n ↔ EvK z b K m h n := ⟨fun ⟨t, e, r⟩ => by cases e; exact r, fun r => ⟨false, rfl, r⟩⟩
theorem EvC_bool {a b : Code} {t : Bool} (h1 : t = true → EvK z a K m h n) (h2 : t = false → EvK z b K m h n) : EvC z (.bool t) a b K m h n := by
 refine ⟨t, rfl, ?_⟩; cases t <;> first | exact h1 rfl | exact h2 rfl
theorem EvC_dec {a b : Code} {p : Prop} [Decidable p] (h1 : p → EvK z a K m h n) (h2 : ¬ p → EvK z b K m h n) : EvC z (.bool (decide p)) a b K m h n :=
 EvC_bool (fun e => h1 (of_decide_eq_true e)) fun e => h2 (of_decide_eq_false e)
theorem EvK_region {id : Nat} {ops : Array Oper} : EvK z (.region id ops false) K m h n ↔ EvO z ops.toList ops.toList K m h n := by
 refine and_congr_right fun hm => ⟨?_, ?_⟩
 ·rintro ⟨k, x, h', n', e, r⟩
  cases k with
  | zero => have e : (Res.fail "fuel" : Res (AExit × Tm)) = .ok x (S0 h' n') := e; simp at e
  | succ k =>
   rw [evC_succ] at e
   simp only [stepC, cond_false] at e
   obtain ⟨m', s₁, e₁, e₂⟩ := bnd_ok e
   simp only [Res.ok.injEq] at e₂
   obtain ⟨rfl, rfl⟩ := e₂
   exact ⟨k, m', h', n', e₁, r⟩
 ·rintro ⟨k, m', h', n', e, r⟩
  refine ⟨k + 1, (.normal, m'), h', n', ?_, r⟩
  rw [evC_succ]
  simp only [stepC, cond_false, e, bnd_ok_eq]
theorem EvO_nil {ops : List Oper} : EvO z ops [] K m h n ↔ Rs z K .normal m h n := by
 constructor
 ·rintro ⟨hm, k, m', h', n', e, r⟩
  simp only [opsA, S0, Res.ok.injEq, HS.mk.injEq] at e
  obtain ⟨rfl, rfl, rfl, _⟩ := e
  exact r
 ·intro r
  exact ⟨Rs_n r, 0, m, h, n, rfl, r⟩
def EvG (z : Zx) (w : Bool) (o : Oper) (ops r : List Oper) (K : List KF) (m : Tm) (h : PT ABlk) (n : Nat) : Prop :=
 cond w (o.op.operands.toList.all opFlat = true ∧ EvV z (aOp z.P m.eval o) o.dst ops r K m h n) (EvV z (.pure .skip) o.dst ops r K m h n)
theorem EvO_cons {o : Oper} {ops r : List Oper} : EvO z ops (o :: r) K m h n ↔ EvG z (wantedA ops m o) o ops r K m h n := by
 unfold EvG
 cases hw : wantedA ops m o with
 | false =>
  simp only [cond_false]
  refine and_congr_right fun hm => ?_
  simp only [opsA, opA, hw, cond_false, AP.run, bnd_ok_eq, nextA]
 | true =>
  simp only [cond_true]
  constructor
  ·rintro ⟨hm, k, m', h', n', e, r⟩
   simp only [opsA, opA, hw, cond_true, valA] at e
   cases hf : o.op.operands.toList.all opFlat with
   | false => rw [hf] at e; simp [bnd] at e
   | true =>
    rw [hf] at e
    simp only [cond_true, bnd_assoc] at e
    exact ⟨rfl, hm, k, m', h', n', e, r⟩
  ·rintro ⟨hf, hm, k, m', h', n', e, r⟩
   refine ⟨hm, k, m', h', n', ?_, r⟩
   simp only [opsA, opA, hw, cond_true, valA, hf, bnd_assoc]
   exact e
theorem EvG_true {o : Oper} {ops r : List Oper} : EvG z true o ops r K m h n ↔ o.op.operands.toList.all opFlat = true ∧ EvV z (aOp z.P m.eval o) o.dst ops r K m h n := Iff.rfl
theorem EvG_false {o : Oper} {ops r : List Oper} : EvG z false o ops r K m h n ↔ EvV z (.pure .skip) o.dst ops r K m h n := Iff.rfl
def up (m : Tm) (i : Nat) (v : Value) : Tm := { m with t := m.t.set i (some v) }
variable {d : Option Nat} {ops r : List Oper}
theorem up_get_same {i : Nat} {v : Value} : (up m i v).get i = v := by simp [up, Tm.get, PT.get_set_same]
theorem up_get_ne {i j : Nat} {v : Value} (hij : i ≠ j) : (up m i v).get j = m.get j := by simp [up, Tm.get, PT.get_set_ne _ _ hij]
theorem up_n {i : Nat} {v : Value} : (up m i v).n = m.n := rfl
theorem up_dfs {i : Nat} {v : Value} : (up m i v).dfs = m.dfs := rfl
theorem EvV_value {i : Nat} {v : Value} : EvV z (.pure (.value v)) (some i) ops r K m h n ↔ i < z.N ∧ EvO z ops r K (up m i v) h n := by
 unfold EvV EvO
 simp only [AP.run, bnd_ok_eq, nextA, putA, Tm.put, up_n]
 constructor
 ·rintro ⟨hm, k, m', h', n', e, q⟩
  cases hb : Nat.blt i m.n with
  | false => rw [hb] at e; simp [bnd] at e
  | true =>
   rw [hb] at e
   have := Nat.le_of_ble_eq_true hb
   exact ⟨by omega, hm, k, m', h', n', e, q⟩
 ·rintro ⟨hi, hm, k, m', h', n', e, q⟩
  have hb : Nat.blt i m.n = true := Nat.ble_eq_true_of_le (by omega)
  exact ⟨hm, k, m', h', n', by rw [hb]; exact e, q⟩
theorem EvV_value' {v : Value} : EvV z (.pure (.value v)) none ops r K m h n ↔ EvO z ops r K m h n := Iff.rfl
theorem EvV_skip {i : Nat} : EvV z (.pure .skip) (some i) ops r K m h n ↔ i < z.N ∧ EvO z ops r K (up m i undefV) h n := EvV_value (v := undefV)
theorem EvV_skip' : EvV z (.pure .skip) none ops r K m h n ↔ EvO z ops r K m h n := Iff.rfl
theorem EvV_fail {w : String} : EvV z (.fail w) d ops r K m h n ↔ False := by
 constructor
 ·rintro ⟨_, k, m', h', n', e, _⟩; simp [AP.run, bnd] at e
 ·exact False.elim
def EvL (z : Zx) (b : Option ABlk) (f : ABlk → AP ANext) (d : Option Nat) (ops r : List Oper) (K : List KF) (m : Tm) (h : PT ABlk) (n : Nat) : Prop :=
 match b with
 | some b => EvV z (f b) d ops r K m h n
 | none => False
theorem EvV_get {id : Nat} {f : ABlk → AP ANext} : EvV z (.get id f) d ops r K m h n ↔ EvL z (h.get id) f d ops r K m h n := by
 unfold EvL EvV
 simp only [AP.run, show (S0 h n).heap = h from rfl]
 cases hb : h.get id with
 | none => simp [bnd]
 | some b => simp only [show Nat.blt id 0 = false from rfl, cond_false]
theorem EvL_some {b : ABlk} {f : ABlk → AP ANext} : EvL z (some b) f d ops r K m h n ↔ EvV z (f b) d ops r K m h n := Iff.rfl
def EvS (z : Zx) (o : Option ABlk) (id : Nat) (b : Option ABlk) (p : AP ANext) (d : Option Nat) (ops r : List Oper) (K : List KF) (m : Tm) (h : PT ABlk) (n : Nat) : Prop :=
 match o with
 | some _ => EvV z p d ops r K m (h.set id b) n
 | none => False
theorem EvV_set {id : Nat} {b : ABlk} {p : AP ANext} : EvV z (.set id b p) d ops r K m h n ↔ EvS z (h.get id) id (some b) p d ops r K m h n := by
 unfold EvS EvV
 simp only [AP.run, show (S0 h n).heap = h from rfl]
 cases hb : h.get id with
 | none => simp [bnd]
 | some c => simp only [show Nat.blt id 0 = false from rfl, cond_false]; exact Iff.rfl
theorem EvV_kill {id : Nat} {p : AP ANext} : EvV z (.kill id p) d ops r K m h n ↔ EvS z (h.get id) id none p d ops r K m h n := by
 unfold EvS EvV
 simp only [AP.run, show (S0 h n).heap = h from rfl]
 cases hb : h.get id with
 | none => simp [bnd]
 | some c => simp only [show Nat.blt id 0 = false from rfl, cond_false]; exact Iff.rfl
theorem EvS_some {c : ABlk} {id : Nat} {b : Option ABlk} {p : AP ANext} : EvS z (some c) id b p d ops r K m h n ↔ EvV z p d ops r K m (h.set id b) n := Iff.rfl
theorem EvV_new {b : ABlk} {f : Nat → AP ANext} : EvV z (.new b f) d ops r K m h n ↔ EvV z (f n) d ops r K m (h.set n (some b)) (n + 1) := Iff.rfl
def EvQ (z : Zx) (s : Option (AP Value)) (f : FuncId) (args : List Value) (d : Option Nat) (ops r : List Oper) (K : List KF) (m : Tm) (h : PT ABlk) (n : Nat) : Prop :=
 match s with
 | some p => EvV z (p.bind fun v => .pure (.value v)) d ops r K m h n
 | none => EvV z (.pure (.enter f args)) d ops r K m h n
theorem run_bind {α β : Type} {lim : Nat} : ∀ (p : AP α) (f : α → AP β) (s : HS), (p.bind f).run lim s = bnd (p.run lim s) fun a s => (f a).run lim s
 | .pure a, f, s => rfl
 | .fail w, f, s => rfl
 | .get id k, f, s => by
  simp only [AP.bind, AP.run]
  cases s.heap.get id with
  | none => rfl
  | some b => exact run_bind (k b) f _
 | .set id b k, f, s => by
  simp only [AP.bind, AP.run]
  cases s.heap.get id with
  | none => rfl
  | some _ => exact run_bind k f _
 | .kill id k, f, s => by
  simp only [AP.bind, AP.run]
  cases s.heap.get id with
  | none => rfl
  | some _ => exact run_bind k f _
 | .new b k, f, s => by
  simp only [AP.bind, AP.run]
  exact run_bind (k s.next) f _
theorem EvV_enter {f : FuncId} {args : List Value} : EvV z (.pure (.enter f args)) d ops r K m h n ↔ EvQ z (z.O f args) f args d ops r K m h n := by
 unfold EvQ
 cases hO : z.O f args with
 | none => exact Iff.rfl
 | some p =>
  simp only [EvV, run_bind, bnd_assoc, AP.run, bnd_ok_eq, nextA, callA, hO]
theorem EvQ_some {p : AP Value} {f : FuncId} {args : List Value} : EvQ z (some p) f args d ops r K m h n ↔ EvV z (p.bind fun v => .pure (.value v)) d ops r K m h n := Iff.rfl
end rules
end Go.Am
