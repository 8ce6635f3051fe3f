/-
  A part of the proof: contracts of inner functions.
-/
import Derived.Test.YtapcgfakefmemaaAmU5
import Derived.Sort.Row
import Derived.Sort.Grow
/-
  The abstract machine: what a slice of numbers gives to append; a value by what its program's run gives.
-/
set_option linter.unusedSimpArgs false
set_option linter.unusedVariables false
namespace Go.Am
open Go.RowKit
theorem aFirst_look {k : IntKind} {h : PT ABlk} {a : Option Addr} {cap : Nat} {xs : List Int} (hs : IsInts k h (.slice a xs.length cap) xs) : (aFirst 1 (.slice a xs.length cap)).look h = some (xs.length, xs.map (.int k)) := by
  rcases hs.shapes with ⟨e, rfl⟩ | ⟨b, off, sp, c, L, ro, e, rfl, hb⟩ | ⟨b, off, sp, c, L, ro, e, hb, hB, hT⟩
  · cases e; rfl
  · cases e
    rw [List.length_nil, aFirst_row, look_get, hb]
    simp only [fsB_row, Nat.zero_mul, Nat.beq_refl, Bool.or_true, cond_true, look_pure, List.take_zero, List.map_nil]
  · cases e
    rw [aFirst_row, look_get, hb]
    simp only [fsB_row, Nat.mul_one]
    have h1 : (Nat.ble (off + xs.length) L.length || Nat.beq xs.length 0) = true := by first | exact hB | (rw [show Nat.ble (off + xs.length) L.length = true from by first | exact hB | exact Nat.ble_eq_true_of_le hB]; rfl)
    rw [h1, cond_true, look_pure, hT]
theorem EvV_via {q : AP Value} {z : Zx} {d : Option Nat} {ops r : List Oper} {K : List KF} {m : Tm} {h : PT ABlk} {n : Nat} (I : Value → PT ABlk → Nat → Prop) (hI : ∃ v h' n', q.run 0 (S0 h n) = .ok v (S0 h' n') ∧ I v h' n')
    (hk : ∀ v h' n', I v h' n' → EvV z (.pure (.value v)) d ops r K m h' n') : EvV z (q.bind fun v => .pure (.value v)) d ops r K m h n := by
  obtain ⟨v, h', n', e, hi⟩ := hI
  have := hk v h' n' hi
  unfold EvV at *
  simp only [run_bind, e, bnd_ok_eq]
  exact this
theorem EvV_via2 {β : Type} {q : AP β} {f : β → AP Value} {z : Zx} {d : Option Nat} {ops r : List Oper} {K : List KF} {m : Tm} {h : PT ABlk} {n : Nat} (I : Value → PT ABlk → Nat → Prop) (hI : ∃ v h' n', (q.bind f).run 0 (S0 h n) = .ok v (S0 h' n') ∧ I v h' n')
    (hk : ∀ v h' n', I v h' n' → EvV z (.pure (.value v)) d ops r K m h' n') : EvV z (q.bind fun a => (f a).bind fun v => .pure (.value v)) d ops r K m h n := by
  obtain ⟨v, h', n', e, hi⟩ := hI
  have := hk v h' n' hi
  rw [run_bind] at e
  obtain ⟨a, s, e1, e2⟩ := bnd_ok e
  unfold EvV at *
  simp only [run_bind, e1, e2, bnd_ok_eq]
  exact this
end Go.Am
/-
  The abstract machine, for proofs with variables: maps (made, looked up, written, counted).
-/
set_option linter.unusedSimpArgs false
set_option linter.unusedVariables false
namespace Go.Am
section
variable {P : Program} {ρ : Operand → Value} {d : Option Tmp} {ty : TypeId} {pos : String} {af : Array Edge} {g : Option (Nat × Bool)}
@[go_sem] theorem aOp_makeMap {t : TypeId} : aOp P ρ ⟨d, .makeMap t none, ty, pos, af, g⟩ = .new (.map [] 0) fun id => .pure (.value (.map (some id))) := rfl
def lkQ (P : Program) (t : TypeId) (x k : Value) (ok : Bool) : AP ANext := (aLookup P t x k ok).bind fun v => .pure (.value v)
@[go_sem] theorem aOp_lookup {t : TypeId} {x i : Operand} {ok : Bool} : aOp P ρ ⟨d, .lookup t x i ok, ty, pos, af, g⟩ = lkQ P t (ρ x) (ρ i) ok := rfl
def muQ (P : Program) (t : TypeId) (x k v : Value) : AP ANext := (aMapUpdate P t x k v).bind fun _ => .pure .skip
@[go_sem] theorem aOp_mapUpdate {t : TypeId} {x i v : Operand} : aOp P ρ ⟨d, .mapUpdate t x i v, ty, pos, af, g⟩ = muQ P t (ρ x) (ρ i) (ρ v) := rfl
def lkR (P : Program) (et : TypeId) (ok : Bool) : Option (Option (Nat × Value)) → AP ANext
  | some (some (_, v)) => .pure (.value (cond ok (.tuple ⟨[v, .bool true]⟩) v))
  | some none => match zeroOf P et with
    | some z => .pure (.value (cond ok (.tuple ⟨[z, .bool false]⟩) z))
    | none => .fail "lookup"
  | none => .fail "lookup"
def lkB (P : Program) (kd : TypeDesc) (et : TypeId) (k : Value) (ok : Bool) : ABlk → AP ANext
  | .map es _ => lkR P et ok (findKeyA P kd k es 0)
  | _ => .fail "map block"
theorem lkQ_map {t kt et : TypeId} {kd : TypeDesc} {r : Nat} {k : Value} {ok : Bool} (h1 : P.underlying t = some (.map kt et)) (h2 : P.underlying kt = some kd) (h3 : keyOk P kt kd k = true) : lkQ P t (.map (some r)) k ok = .get r (lkB P kd et k ok) := by
  unfold lkQ aLookup aMapGet
  simp only [h1, h2, h3, cond_true, AP.bind]
  congr 1
  funext b
  cases b with
  | map es c =>
    simp only [AP.bind, lkB]
    unfold lkR
    cases findKeyA P kd k es 0 with
    | none => rfl
    | some q =>
      cases q with
      | none => simp only; cases zeroOf P et <;> rfl
      | some p => rfl
  | _ => rfl
theorem lkB_map {kd : TypeDesc} {et : TypeId} {k : Value} {ok : Bool} {es : List (Value × Value × Nat)} {c : Nat} : lkB P kd et k ok (.map es c) = lkR P et ok (findKeyA P kd k es 0) := rfl
def muR (r : Nat) (simple : Bool) (k v : Value) (es : List (Value × Value × Nat)) (clk : Nat) : Option (Option (Nat × Value)) → AP ANext
  | some (some (i, _)) => cond simple (.set r (.map (putEntry k v es i) clk) (.pure .skip)) (.fail "mapUpdate")
  | some none => .set r (.map (es ++ [(k, v, clk)]) (clk + 1)) (.pure .skip)
  | none => .fail "mapUpdate"
def muB (P : Program) (r : Nat) (kd : TypeDesc) (k v : Value) : ABlk → AP ANext
  | .map es clk => muR r (simpleKey kd) k v es clk (findKeyA P kd k es 0)
  | _ => .fail "mapUpdate"
theorem muQ_map {t kt et : TypeId} {kd : TypeDesc} {r : Nat} {k v : Value} (h1 : P.underlying t = some (.map kt et)) (h2 : P.underlying kt = some kd) (h3 : keyOk P kt kd k = true) : muQ P t (.map (some r)) k v = .get r (muB P r kd k v) := by
  unfold muQ aMapUpdate
  simp only [h1, h2, h3, cond_true, AP.bind]
  congr 1
  funext b
  cases b with
  | map es c =>
    simp only [muB]
    unfold muR
    cases findKeyA P kd k es 0 with
    | none => rfl
    | some q =>
      cases q with
      | none => rfl
      | some p => simp only; cases simpleKey kd <;> rfl
  | _ => rfl
theorem muB_map {r : Nat} {kd : TypeDesc} {k v : Value} {es : List (Value × Value × Nat)} {c : Nat} : muB P r kd k v (.map es c) = muR r (simpleKey kd) k v es c (findKeyA P kd k es 0) := rfl
def mlB : ABlk → AP ANext
  | .map es _ => .pure (.value (.int .i64 es.length))
  | _ => .fail "map block"
theorem bltQ_lenmap {t kt et : TypeId} {ts : List TypeId} {r : Nat} (h1 : P.underlying t = some (.map kt et)) : bltQ P .len (t :: ts) [.map (some r)] = .get r mlB := by
  unfold bltQ
  show (aLen P (t :: ts) [.map (some r)]).bind _ = _
  unfold aLen aMapGet
  simp only [h1, AP.bind]
  congr 1
  funext b
  cases b <;> rfl
@[go_sem] theorem mlB_map {es : List (Value × Value × Nat)} {c : Nat} : mlB (.map es c) = .pure (.value (.int .i64 es.length)) := rfl
end
end Go.Am
/-
  The abstract machine, for proofs with variables: ranges over functions: entering, a round, the end; bodies with deferred marks.
-/
set_option linter.unusedSimpArgs false
set_option linter.unusedVariables false
namespace Go.Am
def setD (m : Tm) (d : List Nat) : Tm := { m with dfs := d }
@[go_sem] theorem setD_n {m : Tm} {d : List Nat} : (setD m d).n = m.n := rfl
@[go_sem] theorem setD_dfs {m : Tm} {d : List Nat} : (setD m d).dfs = d := rfl
@[go_sem] theorem setD_get {m : Tm} {d : List Nat} {i : Nat} : (setD m d).get i = m.get i := rfl
def killD : List Nat → PT ABlk → Option (PT ABlk)
  | [], h => some h
  | d :: r, h => match h.get d with
    | some .deferred => killD r (h.set d none)
    | _ => none
theorem killD_run : ∀ (l : List Nat) (h h' : PT ABlk) (n : Nat), killD l h = some h' → takeDfs 0 l (S0 h n) = .ok () (S0 h' n)
  | [], h, h', n, e => by simp only [killD, Option.some.injEq] at e; subst e; rfl
  | d :: r, h, h', n, e => by
    simp only [killD] at e
    split at e
    · rename_i hd
      have ih := killD_run r (h.set d none) h' n e
      simp only [takeDfs, takeDef, AP.run, show (S0 h n).heap = h from rfl, hd, show Nat.blt d 0 = false from rfl, cond_false]
      simp only [bnd_ok_eq]
      exact ih
    · simp at e
def FinD (P : Program) (rs : List ResultVar) (R : Value → PT ABlk → Nat → Prop) (e : AExit) (m : Tm) (h : PT ABlk) (n : Nat) : Prop :=
  (match e with | .exit _ => False | _ => True) ∧ ∃ h2, killD m.dfs h = some h2 ∧ ∃ l, resV P m h2 rs = some l ∧ R (oneOf l) h2 n
theorem EvB_ofD {P : Program} {O : Over} {f : FuncId} {fn : Func} {c : Code} {args : List Value} {h : PT ABlk} {n : Nat} {R : Value → PT ABlk → Nat → Prop} (hf : P.funcs[f]? = some fn) (hb : fn.body = some c)
    (H : ∀ z : Zx, z.P = P → z.O = O → z.ro = none → z.N = args.length + (fn.ntmps - args.length) → z.Q = FinD P fn.results.toList R → EvK z c [] ⟨args.length + (fn.ntmps - args.length), PT.ofList .leaf 0 args, []⟩ h n) : EvB P O f args h n R := by
  obtain ⟨_, k, x, h', n', e, hx⟩ := H ⟨P, O, none, args.length + (fn.ntmps - args.length), FinD P fn.results.toList R⟩ rfl rfl rfl rfl rfl
  obtain ⟨_, hx, h2, hd, l, hl, hR⟩ : _ ∧ FinD P fn.results.toList R x.1 x.2 h' n' := hx
  refine ⟨k, oneOf l, h2, n', ?_, hR⟩
  simp only [bodyA, hf, hb]
  rw [e, bnd_ok_eq]
  unfold afterA
  cases hx1 : x.1 with
  | exit i => rw [hx1] at hx; exact hx.elim
  | normal => simp only; rw [killD_run _ _ _ _ hd, bnd_ok_eq, res_run hl]; rfl
  | ret => simp only; rw [killD_run _ _ _ _ hd, bnd_ok_eq, res_run hl]; rfl
theorem EvB_runD {P : Program} {O : Over} {f : FuncId} {fn : Func} {c : Code} {args : List Value} {h : PT ABlk} {n N : Nat} {R : Value → PT ABlk → Nat → Prop} (hf : P.funcs[f]? = some fn) (hb : fn.body = some c) (hN : args.length + (fn.ntmps - args.length) = N)
    (H : ∀ z : Zx, z.P = P → z.O = O → z.ro = none → z.N = N → z.Q = FinD P fn.results.toList R → EvK z c [] ⟨N, PT.ofList .leaf 0 args, []⟩ h n) : EvB P O f args h n R := by
  subst hN; exact EvB_ofD hf hb H
@[go_sem] theorem FinD_ret {P : Program} {rs : List ResultVar} {R : Value → PT ABlk → Nat → Prop} {m : Tm} {h : PT ABlk} {n : Nat} : FinD P rs R .ret m h n ↔ ∃ h2, killD m.dfs h = some h2 ∧ ∃ l, resV P m h2 rs = some l ∧ R (oneOf l) h2 n := by simp [FinD]
@[go_sem] theorem FinD_normal {P : Program} {rs : List ResultVar} {R : Value → PT ABlk → Nat → Prop} {m : Tm} {h : PT ABlk} {n : Nat} : FinD P rs R .normal m h n ↔ ∃ h2, killD m.dfs h = some h2 ∧ ∃ l, resV P m h2 rs = some l ∧ R (oneOf l) h2 n := by simp [FinD]
@[go_sem] theorem killD_nil {h : PT ABlk} : killD [] h = some h := rfl
def kd1 (o : Option ABlk) (d : Nat) (r : List Nat) (h : PT ABlk) : Option (PT ABlk) := match o with
  | some .deferred => killD r (h.set d none)
  | _ => none
@[go_sem] theorem killD_cons {d : Nat} {r : List Nat} {h : PT ABlk} : killD (d :: r) h = kd1 (h.get d) d r h := rfl
@[go_sem] theorem kd1_def {d : Nat} {r : List Nat} {h : PT ABlk} : kd1 (some .deferred) d r h = killD r (h.set d none) := rfl
section
variable {z : Zx} {K : List KF} {m : Tm} {h : PT ABlk} {n : Nat}
theorem EvK_range {g : Operand} {ps : Array Tmp} {as bd : Code} {f : FuncId} {args : List Value} {fn : Fn} {first captured : Array Value} {R : Value → PT ABlk → Nat → Prop} (hn : m.n = z.N) (hro : z.ro = none) (hg : opFlat g = true) (he : m.eval g = .func fn first captured)
    (hc : aInvoke z.P fn captured.toList (first.toList ++ [.func (.yield (n + 1)) ⟨[]⟩ ⟨[]⟩]) = .pure (.enter f args)) (hO : z.O f args = none)
    (hB : EvB z.P z.O f args ((h.set n (some .deferred)).set (n + 1) (some (.loop .ready none m ps.toList as bd))) (n + 2) R)
    (hk : ∀ v h' n', R v h' n' → h'.get (n + 1) = some (.loop .ready none m ps.toList as bd) ∧ Rs z K .normal (setD m (n :: m.dfs)) (h'.set (n + 1) (some (.loop .exhausted none m ps.toList as bd))) n') : EvK z (.rangeFunc g ps as bd) K m h n := by
  obtain ⟨k, v, h', n', e, hR⟩ := hB
  obtain ⟨hl, hr⟩ := hk v h' n' hR
  refine ⟨hn, k + 1, (.normal, setD m (n :: m.dfs)), h'.set (n + 1) (some (.loop .exhausted none m ps.toList as bd)), n', ?_, hr⟩
  rw [evC_succ]
  simp only [stepC, rangeA, hg, cond_true, hro]
  unfold enterA
  simp only [AP.run, S0, bnd_ok_eq]
  unfold rangeCallee
  simp only [he, hc, AP.bind, AP.run, bnd_ok_eq]
  unfold callA
  simp only [hO]
  have e' : bodyA z.P (evC z.P z.O k) 0 f args ⟨(h.set n (some .deferred)).set (n + 1) (some (.loop .ready none m ps.toList as bd)), n + 1 + 1, [], []⟩ = .ok v (S0 h' n') := e
  rw [e', bnd_ok_eq]
  unfold loopExit
  simp only [AP.run, show (S0 h' n').heap = h' from rfl, hl, show Nat.blt (n + 1) 0 = false from rfl, cond_false, bnd_ok_eq]
  rfl
def RoundB (P : Program) (O : Over) (l : Nat) (m0 : Tm) (as bd : Code) (h : PT ABlk) (n : Nat) (R : Bool → PT ABlk → Nat → Prop) : Prop :=
  ∃ k b h' n', roundA (evC P O k) 0 l m0 as bd (S0 h n) = .ok (.bool b) (S0 h' n') ∧ R b h' n'
theorem RoundB.mono {P : Program} {O : Over} {l : Nat} {m0 : Tm} {as bd : Code} {R R' : Bool → PT ABlk → Nat → Prop} (e : RoundB P O l m0 as bd h n R) (hR : ∀ b h' n', R b h' n' → R' b h' n') : RoundB P O l m0 as bd h n R' := by
  obtain ⟨k, b, h', n', e, r⟩ := e
  exact ⟨k, b, h', n', e, hR _ _ _ r⟩
theorem EvV_round {l : Nat} {m0 : Tm} {as bd : Code} {d : Option Nat} {ops r : List Oper} {R : Bool → PT ABlk → Nat → Prop} (hm : m.n = z.N) (e : RoundB z.P z.O l m0 as bd h n R) (hk : ∀ b h' n', R b h' n' → EvV z (.pure (.value (.bool b))) d ops r K m h' n') :
    EvV z (.pure (.round l m0 as bd)) d ops r K m h n := by
  obtain ⟨k, b, h', n', e, hR⟩ := e
  obtain ⟨_, k2, m', h2, n2, e2, q⟩ := hk b h' n' hR
  refine ⟨hm, max k k2, m', h2, n2, ?_, q⟩
  simp only [AP.run, bnd_ok_eq, nextA] at e2 ⊢
  rw [round_mono (evC_mono (Nat.le_max_left k k2)) e, bnd_ok_eq]
  exact bnd_mono (fun _ _ q => q) (fun a s _ b s' q => ops_mono (evC_mono (Nat.le_max_right k k2)) r q) e2
def EvR (z : Zx) (l : Nat) (m0 : Tm) (as bd : Code) (d : Option Nat) (ops r : List Oper) (K : List KF) (m : Tm) (h : PT ABlk) (n : Nat) : Prop := EvV z (.pure (.round l m0 as bd)) d ops r K m h n
@[go_sem] theorem EvV_rnd {l : Nat} {m0 : Tm} {as bd : Code} {d : Option Nat} {ops r : List Oper} : EvV z (.pure (.round l m0 as bd)) d ops r K m h n ↔ EvR z l m0 as bd d ops r K m h n := Iff.rfl
theorem EvR_round {l : Nat} {m0 : Tm} {as bd : Code} {d : Option Nat} {ops r : List Oper} {R : Bool → PT ABlk → Nat → Prop} (hm : m.n = z.N) (e : RoundB z.P z.O l m0 as bd h n R) (hk : ∀ b h' n', R b h' n' → EvV z (.pure (.value (.bool b))) d ops r K m h' n') :
    EvR z l m0 as bd d ops r K m h n := EvV_round hm e hk
theorem RoundB_of {P : Program} {O : Over} {l N : Nat} {m0 : Tm} {as bd : Code} {R : Bool → PT ABlk → Nat → Prop} {pe : Option Code} {tm : Tm} {ps : List Tmp} {a b : Code}
    (H : ∀ z0 : Zx, z0.P = P → z0.O = O → z0.ro = some l → z0.N = N → z0.Q = (fun e m1 h1 n1 => e = .normal ∧ h1.get l = some (.loop .ready pe tm ps a b) ∧
      ∀ z1 : Zx, z1.P = P → z1.O = O → z1.ro = some l → z1.N = N → z1.Q = (fun e2 m2 h2 n2 => h2.get l = some (.loop .busy pe tm ps a b) ∧ R (exitCode e2).isNone (h2.set l (some (.loop (cond (exitCode e2).isNone .ready .done) (exitCode e2) tm ps a b))) n2) →
        EvK z1 bd [] m1 (h1.set l (some (.loop .busy pe tm ps a b))) n1) → EvK z0 as [] m0 h n) : RoundB P O l m0 as bd h n R := by
  obtain ⟨hn0, k, x, h1, n1, e, _, hx, hl, hb⟩ := H ⟨P, O, some l, N, _⟩ rfl rfl rfl rfl rfl
  obtain ⟨hn1, k2, y, h2, n2, e2, _, hl2, hR⟩ := hb ⟨P, O, some l, N, _⟩ rfl rfl rfl rfl rfl
  refine ⟨max k k2, (exitCode y.1).isNone, h2.set l (some (.loop (cond (exitCode y.1).isNone .ready .done) (exitCode y.1) tm ps a b)), n2, ?_, hR⟩
  unfold roundA
  rw [evC_mono (Nat.le_max_left k k2) _ _ _ _ _ _ _ e, bnd_ok_eq]
  rw [hx]
  simp only
  unfold loopBegin
  simp only [AP.run, show (S0 h1 n1).heap = h1 from rfl, hl, show Nat.blt l 0 = false from rfl, cond_false, bnd_ok_eq]
  have e2' := evC_mono (Nat.le_max_right k k2) _ _ _ _ _ _ _ e2
  have e3 : evC P O (max k k2) (some l) 0 bd x.2 ⟨h1.set l (some (.loop .busy pe tm ps a b)), (S0 h1 n1).next, (S0 h1 n1).rd, (S0 h1 n1).wr⟩ = .ok y (S0 h2 n2) := e2'
  rw [e3, bnd_ok_eq]
  unfold loopEnd
  simp only [AP.run, show (S0 h2 n2).heap = h2 from rfl, hl2, show Nat.blt l 0 = false from rfl, cond_false]
  rfl
variable {P : Program}
def ylB (args : List Value) (l : Nat) : ABlk → AP ANext
  | .loop _ _ tm ps as bd => match putArgs ps args tm with
    | some m => .pure (.round l (setD m []) as bd)
    | none => .fail "yield arguments"
  | _ => .fail "yield loop"
theorem callQ_yield' {l : Nat} {cap args : List Value} : aInvoke P (.yield l) cap args = .get l (ylB args l) := by
  show AP.get l _ = AP.get l _
  congr 1
@[go_sem] theorem callQ_yield {l : Nat} {first captured : Array Value} {args : List Value} : callQ P (.func (.yield l) first captured) args = .get l (ylB (first.toList ++ args) l) := callQ_yield' (P := P) (cap := captured.toList)
def ylR (l : Nat) (as bd : Code) : Option Tm → AP ANext
  | some m => .pure (.round l (setD m []) as bd)
  | none => .fail "yield arguments"
@[go_sem] theorem ylB_loop {args : List Value} {l : Nat} {st : LoopState} {pe : Option Code} {tm : Tm} {ps : List Tmp} {as bd : Code} : ylB args l (.loop st pe tm ps as bd) = ylR l as bd (putArgs ps args tm) := by
  show (match putArgs ps args tm with | some m => _ | none => _) = _
  generalize putArgs ps args tm = o
  cases o <;> rfl
@[go_sem] theorem ylR_some {l : Nat} {as bd : Code} {m : Tm} : ylR l as bd (some m) = .pure (.round l (setD m []) as bd) := rfl
theorem putArgs_one {p : Tmp} {v : Value} {tm : Tm} (h : p < tm.n) : putArgs [p] [v] tm = some (up tm p v) := by
  have hb : Nat.blt p tm.n = true := Nat.ble_eq_true_of_le h
  simp only [putArgs, Tm.put, hb, cond_true, up]
@[go_sem] theorem putArgs_nil {tm : Tm} : putArgs [] [] tm = some tm := rfl
end
end Go.Am
/-
  The abstract machine: a row written as a whole by the library: slices.Sort of numbers, as an override, from its contract.
-/
set_option linter.unusedSimpArgs false
set_option linter.unusedVariables false
namespace Go.Am
open Go.RowKit
theorem SRel.rowTo {Γ : Emb} {W w w' : World} {h : PT ABlk} (hS : SRel Γ W h w) {i b s : Nat} {L L' : List Value} {cs cs' : Array Value} {el : TypeId} (hb : h.get i = some (.cells (PT.ofList .leaf 0 L) false)) (hblk : Γ.blk i = some (b, s)) (h1 : w.heap[b]? = some (.cells cs el (0, 0)))
    (hos : w'.os = w.os) (htape : w'.tape = w.tape) (hout : w'.output = w.output) (hsize : w.heap.size ≤ w'.heap.size) (hne : ∀ k, k < w.heap.size → k ≠ b → w'.heap[k]? = w.heap[k]?) (hb' : w'.heap[b]? = some (.cells cs' el (0, 0))) (hsz : cs'.size = cs.size)
    (hL : ∀ (j : Nat) (y : Value), L'[j]? = some y → ∃ y', cs'[s + j]? = some y' ∧ VRel Γ y y') : SRel Γ W (h.set i (some (.cells (PT.ofList .leaf 0 L') false))) w' := by
  have hlow : W.heap.size ≤ b := by
    obtain ⟨b2, s2, e, _, hw⟩ := hS.live i _ hb
    rw [hblk] at e
    obtain ⟨rfl, rfl⟩ := Prod.mk.inj (Option.some.inj e)
    exact hw rfl
  have hWw : W.heap.size ≤ w.heap.size := hS.below.size
  refine ⟨⟨hos.trans hS.below.os, htape.trans hS.below.tape, hout.trans hS.below.output, Nat.le_trans hS.below.size hsize, fun k hk => (hne k (by omega) (by omega)).trans (hS.below.block k hk)⟩, fun a ha => ?_, ?_, ?_, fun j b2 s2 e => Nat.lt_of_lt_of_le (hS.dom j b2 s2 e) hsize, ?_, hS.fin, rows_put hS.rows fun c ro e => ⟨L', (ABlk.cells.inj (Option.some.inj e)).1.symm⟩⟩
  · rw [← hS.fz a ha]
    have := hne a.block (by omega) (by omega)
    simp only [World.frozen?, this]
  · intro j B hj
    rw [PT.get_set] at hj
    split at hj
    · rename_i hji; subst hji
      obtain rfl := Option.some.inj hj
      exact ⟨b, s, hblk, ⟨cs', el, (0, 0), hb', fun _ => rfl, fun k v hv => by
        rw [PT.get_ofList_leaf] at hv
        exact hL k v hv⟩, fun _ => hlow⟩
    · rename_i hji
      obtain ⟨b2, s2, e2, hB, hw2⟩ := hS.live j B hj
      have hd := hS.disj i j _ B b s b2 s2 (Ne.symm hji) hb hj hblk e2 rfl
      exact ⟨b2, s2, e2, hB.world (hne b2 (hS.dom j b2 s2 e2) (Ne.symm hd)), hw2⟩
  · intro x y B B' b1 s1 b2 s2 hxy hx hy e1 e2 hB
    rw [PT.get_set] at hx hy
    have key : ∀ z C, (if z = i then some (ABlk.cells (PT.ofList .leaf 0 L') false) else h.get z) = some C → ∃ C', h.get z = some C' ∧ (C.writable → C'.writable) := by
      intro z C hz
      by_cases hzi : z = i
      · subst hzi; exact ⟨_, hb, fun _ => rfl⟩
      · rw [if_neg hzi] at hz; exact ⟨C, hz, id⟩
    obtain ⟨C, hC, hCw⟩ := key x B hx
    obtain ⟨C', hC', _⟩ := key y B' hy
    exact hS.disj x y C C' b1 s1 b2 s2 hxy hC hC' e1 e2 (hCw hB)
  · intro b2 n2 e
    obtain ⟨c, el2, fz, h2, h3⟩ := hS.siz b2 n2 e
    by_cases hbb : b2 = b
    · subst hbb
      rw [h1] at h2
      obtain ⟨rfl, rfl, rfl⟩ := Obj.cells.inj (Option.some.inj h2)
      exact ⟨cs', el, (0, 0), hb', by rw [hsz]; exact h3⟩
    · exact ⟨c, el2, fz, (hne b2 (lt_of_heap h2) hbb).trans h2, h3⟩
def sorted (xs : List Int) : List Int := xs.mergeSort fun x y => decide (x ≤ y)
theorem sorted_length (xs : List Int) : (sorted xs).length = xs.length := List.length_mergeSort _
noncomputable def sortS : List Value → Option (AP Value)
  | [.slice none 0 c] => some (.pure (.tuple ⟨[]⟩))
  | [.slice (some ⟨b, 0, none⟩) n c] => some (AP.row b fun L ro => cond (!ro && Nat.beq L.length n && Nat.ble n 100000 && Nat.blt 0 n) (match decInts .i64 L with
    | some xs => .setRow b ((sorted xs).map (.int .i64)) (.pure (.tuple ⟨[]⟩))
    | none => .fail "") (.fail ""))
  | _ => none
def SortLaw (P : Program) (f : FuncId) : Prop := ∀ (blk off cap : Nat) (zs : List Int) (w : World), Sort.Holds (Value.int .i64) w blk off zs.toArray → blk < w.heap.size → zs.length < 4611686018427387904 →
  Calls P f #[.slice (some ⟨blk, off, none⟩) zs.length cap] w fun e w' => e = .returned (.tuple #[]) ∧ ∃ n os, w' = Sort.grow (Sort.putRow (Value.int .i64) (Sort.ahead w n) blk off (zs.mergeSort fun x y => decide (x ≤ y)).toArray) os
def SortNil (P : Program) (f : FuncId) : Prop := ∀ (c : Nat) (w : World), Calls P f #[.slice none 0 c] w fun e w' => e = .returned (.tuple #[]) ∧ w' = w
theorem run_row' {h : PT ABlk} {n lim id : Nat} {rd wr : List Nat} {k : List Value → Bool → AP Value} {v : Value} {s' : HS} (e : (AP.row id k).run lim ⟨h, n, rd, wr⟩ = .ok v s') : ∃ L ro rd2, h.get id = some (.cells (PT.ofList .leaf 0 L) ro) ∧ (k L ro).run lim ⟨h, n, rd2, wr⟩ = .ok v s' := by
  simp only [AP.row, AP.run] at e
  cases hb : h.get id with
  | none => rw [hb] at e; simp at e
  | some b =>
    rw [hb] at e
    simp only at e
    cases b with
    | cells c ro =>
      simp only [rowB] at e
      cases hc : rowOf c with
      | none => rw [hc] at e; simp [AP.run] at e
      | some L =>
        rw [hc] at e; rw [rowOf_some hc]
        cases hbl : Nat.blt id lim with
        | true => rw [hbl] at e; exact ⟨L, ro, _, rfl, e⟩
        | false => rw [hbl] at e; exact ⟨L, ro, _, rfl, e⟩
    | _ => simp [rowB, AP.run] at e
theorem sortF {P : Program} {f : FuncId} (h1 : SortLaw P f) (h2 : SortNil P f) : SoundF P f sortS := by
  intro args m hm Γ W w h n lim rd wr args' v s' ha hS hr hfree
  unfold sortS at hm
  split at hm
  · rename_i c
    obtain rfl := Option.some.inj hm
    cases ha with
    | cons _ v' _ _ hv hn =>
      cases hn
      cases hv
      simp only [AP.run, Res.ok.injEq] at hr
      obtain ⟨rfl, rfl⟩ := hr
      refine CallsIn.mono (callsIn_wide.2 (h2 c w)) ?_
      rintro e w' ⟨rfl, rfl⟩
      exact ⟨Γ, _, rfl, .refl _, hS, fun _ _ => rfl, .tuple _ _ .nil⟩
  · rename_i b k c
    obtain rfl := Option.some.inj hm
    obtain ⟨L, ro, rd2, hb, hr⟩ := run_row' hr
    cases hc : (!ro && Nat.beq L.length k && Nat.ble k 100000 && Nat.blt 0 k) with
    | false => rw [hc] at hr; simp [AP.run] at hr
    | true =>
      rw [hc] at hr
      simp only [Bool.and_eq_true, Bool.not_eq_true'] at hc
      obtain ⟨⟨⟨rfl, hk⟩, hk2⟩, hk0⟩ := hc
      have hk := Nat.eq_of_beq_eq_true hk
      have hk2 := Nat.le_of_ble_eq_true hk2
      have hk0 : 0 < k := Nat.le_of_ble_eq_true hk0
      simp only [cond_true] at hr
      cases hd : decInts .i64 L with
      | none => rw [hd] at hr; simp [AP.run] at hr
      | some xs =>
        rw [hd] at hr
        have hLx := decInts_eq hd
        have hxl : xs.length = k := by rw [← hk, hLx, List.length_map]
        simp only [AP.setRow, AP.run, hb] at hr
        simp only [Res.ok.injEq] at hr
        obtain ⟨rfl, rfl⟩ := hr
        cases ha with
        | cons _ v' _ _ hv hn =>
          cases hn
          cases hv with
          | slice _ a' _ _ c' had hcap =>
            have hex := had.exact (.inl hk0)
            obtain ⟨s, hblk, ho⟩ := hex.at_
            have hs' := hex.spot'
            obtain ⟨ab, ao, asp⟩ := a'
            simp only at hblk ho hs'
            subst hs'
            rw [Nat.add_zero] at ho
            subst ho
            obtain ⟨b2, s2, e2, ⟨cs, el, fz, hw1, hfz, hcs⟩, hlow⟩ := hS.live b _ hb
            rw [hblk] at e2
            obtain ⟨rfl, rfl⟩ := Prod.mk.inj (Option.some.inj e2)
            obtain rfl := hfz rfl
            have hcell : ∀ j, (hj : j < xs.length) → cs[ao + j]? = some (.int .i64 xs[j]) := by
              intro j hj
              obtain ⟨x', h3, h4⟩ := hcs j (.int .i64 xs[j]) (by rw [PT.get_ofList_leaf, hLx, List.getElem?_map, List.getElem?_eq_getElem hj]; rfl)
              cases h4
              exact h3
            have hH : Sort.Holds (Value.int .i64) w ab ao xs.toArray := by
              intro j hj
              have hj' : j < xs.length := by simpa using hj
              refine ⟨?_, ?_⟩
              · have := hcell j hj'
                simp [World.cell?, hw1, this, getElem!_pos, hj']
              · simp [World.frozen?, hw1]
            have hsize : ab < w.heap.size := lt_of_heap hw1
            have hcall := h1 ab ao c' xs w hH hsize (by omega)
            rw [hxl] at hcall
            refine CallsIn.mono (callsIn_wide.2 hcall) ?_
            rintro e w' ⟨rfl, nn, os, rfl⟩
            refine ⟨Γ, _, rfl, .refl _, ?_, fun _ _ => rfl, .tuple _ _ .nil⟩
            have hm1 : ∀ k, k < w.heap.size → (Sort.grow (Sort.putRow (Value.int .i64) (Sort.ahead w nn) ab ao (xs.mergeSort fun x y => decide (x ≤ y)).toArray) os).heap[k]? = (Sort.putRow (Value.int .i64) (Sort.ahead w nn) ab ao (xs.mergeSort fun x y => decide (x ≤ y)).toArray).heap[k]? := fun k hk => by
              have : k < (Sort.putRow (Value.int .i64) (Sort.ahead w nn) ab ao (xs.mergeSort fun x y => decide (x ≤ y)).toArray).heap.size := by simpa [Sort.putRow, Sort.mapBlock, Sort.ahead] using hk
              simp only [Sort.grow]
              rw [Array.getElem?_append_left this]
            have hx : ∀ (q : Bool) (X : PT ABlk) (r1 w1 w2 : List Nat), (cond q (⟨X, n, r1, w1⟩ : HS) ⟨X, n, r1, w2⟩).heap = X := fun q X r1 w1 w2 => by cases q <;> rfl
            rw [hx]
            refine hS.rowTo (w' := Sort.grow (Sort.putRow (Value.int .i64) (Sort.ahead w nn) ab ao (xs.mergeSort fun x y => decide (x ≤ y)).toArray) os) (cs' := Sort.putCells (Value.int .i64) ao (xs.mergeSort fun x y => decide (x ≤ y)).toArray cs) hb hblk hw1 rfl rfl rfl ?_ ?_ ?_ ?_ ?_
            · simp [Sort.grow, Sort.putRow, Sort.mapBlock, Sort.ahead]
            · intro k hk hne
              rw [hm1 k hk]
              simp only [Sort.putRow, Sort.mapBlock, Sort.ahead, Array.getElem?_modify]
              rw [if_neg (Ne.symm hne)]
            · rw [hm1 ab hsize]
              simp only [Sort.putRow, Sort.mapBlock, Sort.ahead, Array.getElem?_modify, if_pos, hw1]
              rfl
            · simp [Sort.putCells]
            · intro j y hy
              rw [List.getElem?_map] at hy
              have hjl : j < (sorted xs).length := by
                rcases Nat.lt_or_ge j (sorted xs).length with q | q
                · exact q
                · rw [List.getElem?_eq_none q] at hy; simp at hy
              rw [List.getElem?_eq_getElem hjl] at hy
              obtain rfl := Option.some.inj hy
              have hjx : j < xs.length := by rw [← sorted_length]; exact hjl
              have hc2 := hcell j hjx
              have hcl : ao + j < cs.size := (Array.getElem?_eq_some_iff.1 hc2).1
              refine ⟨.int .i64 (sorted xs)[j], ?_, .int _ _⟩
              have hms : j < (xs.mergeSort fun x y => decide (x ≤ y)).length := hjl
              simp only [Sort.putCells, Array.getElem?_mapIdx, hc2, Option.map_some]
              have hcond : ao ≤ ao + j ∧ ao + j < ao + (xs.mergeSort fun x y => decide (x ≤ y)).toArray.size := by
                refine ⟨by omega, ?_⟩
                simp only [List.size_toArray]; omega
              rw [if_pos hcond, Nat.add_sub_cancel_left]
              have : (xs.mergeSort fun x y => decide (x ≤ y)).toArray[j]! = (sorted xs)[j] := by
                rw [getElem!_pos _ j (by simpa using hms)]
                rfl
              rw [this]
              rfl
  · simp at hm
end Go.Am
/-
  Plain laws of lists of numbers: strictly ascending lists with the same members; the members of a sorted list without its repetitions; the bits of a number.
-/
set_option linter.unusedSimpArgs false
set_option linter.unusedVariables false
namespace Go.Am
theorem asc_ext : ∀ (l l' : List Int), l.Pairwise (· < ·) → l'.Pairwise (· < ·) → (∀ x, x ∈ l ↔ x ∈ l') → l = l'
  | [], [], _, _, _ => rfl
  | [], y :: l', _, _, h => absurd ((h y).2 List.mem_cons_self) (by simp)
  | x :: l, [], _, _, h => absurd ((h x).1 List.mem_cons_self) (by simp)
  | x :: l, y :: l', h1, h2, h => by
    rw [List.pairwise_cons] at h1 h2
    have hxy : x = y := by
      have a := (h x).1 List.mem_cons_self
      have b := (h y).2 List.mem_cons_self
      rw [List.mem_cons] at a b
      rcases a with a | a
      · exact a
      · rcases b with b | b
        · exact b.symm
        · have := h2.1 x a
          have := h1.1 y b
          omega
    subst hxy
    rw [asc_ext l l' h1.2 h2.2 fun z => ?_]
    have := h z
    rw [List.mem_cons, List.mem_cons] at this
    constructor
    · intro hz
      rcases this.1 (.inr hz) with q | q
      · subst q; have := h1.1 z hz; omega
      · exact q
    · intro hz
      rcases this.2 (.inr hz) with q | q
      · subst q; have := h2.1 z hz; omega
      · exact q
def cmpL : List Int → List Int
  | [] => []
  | [x] => [x]
  | x :: y :: r => if x = y then cmpL (y :: r) else x :: cmpL (y :: r)
theorem mem_cmpL : ∀ (l : List Int) (z : Int), z ∈ cmpL l ↔ z ∈ l
  | [], z => Iff.rfl
  | [x], z => Iff.rfl
  | x :: y :: r, z => by
    have ih := mem_cmpL (y :: r) z
    rw [cmpL]
    split
    · rename_i e; subst e
      rw [ih, List.mem_cons, List.mem_cons, List.mem_cons]
      constructor
      · exact fun h => .inr h
      · rintro (h | h)
        · exact .inl h
        · exact h
    · rw [List.mem_cons, ih, ← List.mem_cons]
theorem cmpL_asc : ∀ (l : List Int), l.Pairwise (· ≤ ·) → (cmpL l).Pairwise (· < ·)
  | [], _ => .nil
  | [x], _ => by simp [cmpL]
  | x :: y :: r, h => by
    rw [List.pairwise_cons] at h
    have ih := cmpL_asc (y :: r) h.2
    rw [cmpL]
    split
    · exact ih
    · rename_i e
      rw [List.pairwise_cons]
      refine ⟨fun z hz => ?_, ih⟩
      rw [mem_cmpL] at hz
      have h1 := h.1 y List.mem_cons_self
      have h2 := h.1 z hz
      rcases List.mem_cons.1 hz with q | q
      · omega
      · have := (List.pairwise_cons.1 h.2).1 z q
        omega
theorem sorted_asc (xs : List Int) : (sorted xs).Pairwise (· ≤ ·) := by
  have := List.pairwise_mergeSort (le := fun x y : Int => decide (x ≤ y)) (fun a b c h1 h2 => by simp at *; omega) (fun a b => by simp; omega) xs
  exact this.imp fun h => by simpa using h
theorem mem_sorted (xs : List Int) (z : Int) : z ∈ sorted xs ↔ z ∈ xs := List.mem_mergeSort
theorem buckets_eq {xs : List Int} {k : Nat} {p : Nat → Bool} (h : ∀ z, z ∈ xs ↔ ∃ b : Nat, b < k ∧ p b = true ∧ z = (b : Int)) : cmpL (sorted xs) = ((List.range k).filter p).map (fun b : Nat => (b : Int)) := by
  refine asc_ext _ _ (cmpL_asc _ (sorted_asc xs)) ?_ fun z => ?_
  · rw [List.pairwise_map]
    exact (List.Pairwise.filter p List.pairwise_lt_range).imp fun h => by omega
  · rw [mem_cmpL, mem_sorted, h, List.mem_map]
    constructor
    · rintro ⟨b, h1, h2, rfl⟩
      exact ⟨b, by simp [h1, h2], rfl⟩
    · rintro ⟨b, h1, rfl⟩
      simp only [List.mem_filter, List.mem_range] at h1
      exact ⟨b, h1.1, h1.2, rfl⟩
def bitsFrom : Nat → Nat → Nat → List Nat
  | 0, _, _ => []
  | f + 1, v, s => if s = 0 then [] else if s % 2 = 1 then v :: bitsFrom f (v + 1) (s / 2) else bitsFrom f (v + 1) (s / 2)
theorem mem_bitsFrom : ∀ (f v s b : Nat), s < 2 ^ f → (b ∈ bitsFrom f v s ↔ v ≤ b ∧ s.testBit (b - v) = true)
  | 0, v, s, b, h => by
    have : s = 0 := by simpa using h
    subst this
    simp [bitsFrom]
  | f + 1, v, s, b, h => by
    rw [bitsFrom]
    by_cases h0 : s = 0
    · subst h0; simp
    · rw [if_neg h0]
      have hlt : s / 2 < 2 ^ f := by rw [Nat.pow_succ] at h; omega
      have ih := mem_bitsFrom f (v + 1) (s / 2) b hlt
      have key : v + 1 ≤ b → (s / 2).testBit (b - (v + 1)) = s.testBit (b - v) := fun hb => by
        rw [show b - v = (b - (v + 1)) + 1 by omega, Nat.testBit_succ]
      by_cases h1 : s % 2 = 1
      · rw [if_pos h1, List.mem_cons, ih]
        constructor
        · rintro (rfl | ⟨a, c⟩)
          · exact ⟨Nat.le_refl _, by rw [Nat.sub_self, Nat.testBit_zero]; simpa using h1⟩
          · exact ⟨by omega, by rw [← key a]; exact c⟩
        · rintro ⟨a, c⟩
          by_cases hb : b = v
          · exact .inl hb
          · exact .inr ⟨by omega, by rw [key (by omega)]; exact c⟩
      · rw [if_neg h1, ih]
        constructor
        · rintro ⟨a, c⟩
          exact ⟨by omega, by rw [← key a]; exact c⟩
        · rintro ⟨a, c⟩
          have hb : b ≠ v := fun e => by
            subst e
            rw [Nat.sub_self, Nat.testBit_zero] at c
            simp at c
            omega
          exact ⟨by omega, by rw [key (by omega)]; exact c⟩
end Go.Am
/-
  The abstract machine, for proofs with variables: clear of a slice of numbers.
-/
set_option linter.unusedSimpArgs false
set_option linter.unusedVariables false
namespace Go.Am
theorem rep_one (x : Value) : ∀ k, rep [x] k = List.replicate k x
  | 0 => rfl
  | k + 1 => by rw [rep, rep_one x k]; rfl
theorem putL_take : ∀ (vs L : List Value) (off n : Nat), n ≤ off → (putL L off vs).take n = L.take n
  | [], L, off, n, h => rfl
  | v :: vs, L, off, n, h => by
    rw [putL, putL_take vs _ _ n (by omega), List.take_set_of_le h]
theorem all_one_ints {k : Nat} {kd : IntKind} : (List.replicate k (Value.int kd 0)).all oneCell = true := by
  rw [List.all_eq_true]
  intro v hv
  obtain ⟨_, rfl⟩ := List.mem_replicate.1 hv
  rfl
section
variable {P : Program}
def clB (b off : Nat) (vs : List Value) : ABlk → AP ANext
  | .cells c false => match writeCells c off vs with
    | some c' => .set b (.cells c' false) (.pure (.value (.tuple ⟨[]⟩)))
    | none => .fail "clear"
  | _ => .fail "clear"
@[go_sem] theorem clB_row {b off : Nat} {vs L : List Value} : clB b off vs (.cells (PT.ofList .leaf 0 L) false) = cond ((Nat.ble (off + vs.length) L.length || vs.isEmpty) && vs.all oneCell) (.set b (.cells (PT.ofList .leaf 0 (putL L off vs)) false) (.pure (.value (.tuple ⟨[]⟩)))) (.fail "clear") := by
  unfold clB
  simp only [writeCells_row]
  cases ((Nat.ble (off + vs.length) L.length || vs.isEmpty) && vs.all oneCell) <;> rfl
theorem bltQ_clear_ints {t e : TypeId} {ts : List TypeId} {b off k c : Nat} {sp : Option Nat} {kd : IntKind} {i : TypeInfo} (h1 : P.underlying t = some (.slice e)) (h2 : P.info? e = some i) (h3 : zeroOf P e = some (.int kd 0)) :
    bltQ P .clear (t :: ts) [.slice (some ⟨b, off, sp⟩) k c] = cond (Nat.beq k 0) (.pure (.value (.tuple ⟨[]⟩))) (.get b (clB b off (List.replicate k (.int kd 0)))) := by
  unfold bltQ
  show (aClear P (t :: ts) [.slice (some ⟨b, off, sp⟩) k c]).bind _ = _
  unfold aClear
  simp only [h1, h2, h3]
  cases Nat.beq k 0 with
  | true => rfl
  | false =>
    simp only [cond_false]
    have hz : (Value.int kd 0).cells.toList = [.int kd 0] := rfl
    rw [hz]
    simp only [show Nat.blt 0 [Value.int kd 0].length = true from rfl, cond_true, AP.bind, rep_one]
    congr 1
    funext B
    cases B with
    | cells cc ro =>
      cases ro with
      | true => rfl
      | false =>
        simp only [clB]
        cases writeCells cc off (List.replicate k (Value.int kd 0)) <;> rfl
    | _ => rfl
end
end Go.Am
/-
  The abstract machine, for proofs with variables: a function that writes one row, as an override.
-/
set_option linter.unusedSimpArgs false
set_option linter.unusedVariables false
namespace Go.Am
noncomputable def setP (b : Nat) (g : List Value → Option (List Value × Value)) : AP Value := AP.row b fun L ro => cond ro (.fail "") (match g L with
  | some (L', v) => .setRow b L' (.pure v)
  | none => .fail "")
theorem soundF_set {P : Program} {O : Over} (hO : SoundO P O) (hmix : P.follows .mixedOrders = true) {f : FuncId} {spec : List Value → Option (AP Value)}
    (H : ∀ args m, spec args = some m → ∃ (b : Nat) (g : List Value → Option (List Value × Value)), m = setP b g ∧ (∀ L L' v, g L = some (L', v) → Plain v ∧ ∀ u ∈ L', u ∈ L ∨ Plain u) ∧
      ∀ h N L L' v, (∀ i B, h.get i = some B → i < N) → h.get b = some (.cells (PT.ofList .leaf 0 L) false) → g L = some (L', v) →
        EvB P O f args h N fun v2 h2 n2 => v2 = v ∧ h2.get b = some (.cells (PT.ofList .leaf 0 L') false) ∧ ∀ i, i < N → i ≠ b → h2.get i = h.get i) : SoundF P f spec := by
  refine soundF hO hmix ?_
  intro args m hm h n N Old OldId v h1 n1 hr hold hid hn
  obtain ⟨b, g, rfl, hp, hB⟩ := H args m hm
  unfold setP at hr
  replace hr := run_row hr
  obtain ⟨L, ro, hb, hr⟩ := hr
  cases ro with
  | true => exact (run_fail hr).elim
  | false =>
    simp only [cond_false] at hr
    cases hg : g L with
    | none => rw [hg] at hr; exact (run_fail hr).elim
    | some q =>
      obtain ⟨L', v'⟩ := q
      rw [hg] at hr
      replace hr := run_set hr
      obtain ⟨hs, rfl⟩ := run_pure hr
      have e1 : h1 = _ := congrArg HS.heap hs
      have e2 : n1 = _ := congrArg HS.next hs
      simp only [S0] at e1 e2
      subst e1 e2
      clear hs hr
      obtain ⟨hpv, hpu⟩ := hp L L' v hg
      have hlt : ∀ i B, h.get i = some B → i < N := fun i B e => (hid i (hold.id i B e)).1
      refine (hB h N L L' v hlt hb hg).mono ?_
      rintro v2 h2 n2 ⟨rfl, q1, q2⟩
      refine ⟨fun i => i, fun i a c => by omega, fun i j a c => by omega, hpv.ren, fun i B e => ?_⟩
      rw [PT.get_set] at e
      split at e
      · rename_i hi; subst hi
        obtain rfl := Option.some.inj e
        refine .inr ⟨_, ?_, .cells _ _ _ (VRens.refl _ fun u hu => ?_)⟩
        · rw [sg_old (by omega)]; exact q1
        · rcases hpu u hu with q | q
          · obtain ⟨j, hj⟩ := List.mem_iff_getElem?.1 q
            exact .old _ (hold.cells i _ _ j u hb (by rw [PT.get_ofList_leaf]; exact hj))
          · exact q.ren
      · rename_i hi
        exact .inl ⟨e, by rw [q2 i (hlt i B e) hi]; exact e⟩
end Go.Am
