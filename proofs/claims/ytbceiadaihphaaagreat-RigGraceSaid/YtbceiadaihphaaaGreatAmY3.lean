/-
  A part of the proof: contracts of inner functions.
-/
import Derived.Test.YtbceiadaihphaaaGreatAmU6
/-
 The abstract machine, for proofs with variables: loops; slices of numbers as lists.
-/
set_option linter.unusedSimpArgs false
set_option linter.unusedVariables false
namespace Go.Am
@[go_sem] theorem wrap_i64 {x : Int} (h1 : -9223372036854775808 ≤ x) (h2 : x < 9223372036854775808) : IntKind.i64.wrap x = x := by
 unfold IntKind.wrap
 have e1 : (2 : Int) ^ IntKind.i64.bits = 18446744073709551616 := by rfl
 have e2 : (2 : Int) ^ (IntKind.i64.bits - 1) = 9223372036854775808 := by rfl
 simp only [e1, e2, IntKind.signed, Bool.true_and, decide_eq_true_eq]
 split <;> omega
@[go_sem] theorem wrap_u64 {x : Int} (h1 : 0 ≤ x) (h2 : x < 18446744073709551616) : IntKind.u64.wrap x = x := by
 unfold IntKind.wrap
 simp only [IntKind.bits, IntKind.signed, Bool.false_and, if_false]
 simp only [Bool.false_eq_true, if_false]
 omega
@[go_sem] theorem wrap_u8 {x : Int} (h1 : 0 ≤ x) (h2 : x < 256) : IntKind.u8.wrap x = x := by
 unfold IntKind.wrap
 simp only [IntKind.bits, IntKind.signed, Bool.false_and]
 simp only [Bool.false_eq_true, if_false]
 omega
@[go_sem] theorem cast_zero_int : ((0 : Nat) : Int) = 0 := rfl
theorem ind_loop {z : Zx} {c : Code} {K : List KF} (I : Nat → Tm → PT ABlk → Nat → Prop) {m : Tm} {h : PT ABlk} {n : Nat} (t : Nat) (h0 : I t m h n)
  (step : ∀ t m h n, (∀ t' m' h' n', t' < t → I t' m' h' n' → EvK z (.loop c) K m' h' n') → I t m h n → EvK z c (.loop c :: K) m h n) : EvK z (.loop c) K m h n := by
 have key : ∀ k t m h n, t < k → I t m h n → EvK z (.loop c) K m h n := by
  intro k
  induction k with
  | zero => intro t m h n ht; omega
  | succ k ih =>
   intro t m h n ht hI
   rw [EvK_loop]
   exact step t m h n (fun t' m' h' n' ht' hI' => ih t' m' h' n' (by omega) hI') hI
 exact key (t + 1) t m h n (by omega) h0
def IsInts (k : IntKind) (h : PT ABlk) (s : Value) (xs : List Int) : Prop :=
 (s = .slice none 0 0 ∧ xs = []) ∨ ∃ b off sp cap L ro, s = .slice (some ⟨b, off, sp⟩) xs.length cap ∧ h.get b = some (.cells (PT.ofList .leaf 0 L) ro) ∧ (Nat.ble (off + xs.length) L.length || Nat.beq xs.length 0) = true ∧ (L.drop off).take xs.length = xs.map (.int k)
theorem isInts_at {k : IntKind} {L : List Value} {off : Nat} {xs : List Int} (hT : (L.drop off).take xs.length = xs.map (.int k)) (i : Nat) (hi : i < xs.length) : L[off + i]? = some (.int k (xs.getD i 0)) := by
 have h2 : ((L.drop off).take xs.length)[i]? = (xs.map (Value.int k))[i]? := by rw [hT]
 rw [List.getElem?_take, if_pos hi, List.getElem?_drop] at h2
 rw [h2, List.getElem?_map, List.getElem?_eq_getElem hi]
 simp [List.getD, List.getElem?_eq_getElem hi]
theorem IsInts.len {k : IntKind} {h : PT ABlk} {s : Value} {xs : List Int} (hs : IsInts k h s xs) : ∃ a cap, s = .slice a xs.length cap ∧ ∀ i, i < xs.length → ∃ b off sp L ro, a = some ⟨b, off, sp⟩ ∧ h.get b = some (.cells (PT.ofList .leaf 0 L) ro) ∧ L[off + i]? = some (.int k (xs.getD i 0)) := by
 rcases hs with ⟨rfl, rfl⟩ | ⟨b, off, sp, cap, L, ro, rfl, hb, _, hT⟩
 ·exact ⟨none, 0, rfl, fun i hi => by simp at hi⟩
 ·exact ⟨_, cap, rfl, fun i hi => ⟨b, off, sp, L, ro, rfl, hb, isInts_at hT i hi⟩⟩
def decInts (k : IntKind) : List Value → Option (List Int)
 | [] => some []
 | .int k' x :: r => if k' = k then (decInts k r).map (x :: ·) else none
 | _ :: _ => none
theorem decInts_map {k : IntKind} : ∀ (xs : List Int), decInts k (xs.map (.int k)) = some xs
 | [] => rfl
 | x :: xs => by simp [decInts, decInts_map xs]
def rdInts (k : IntKind) (s : Value) : AP (List Int) := match s with
 | .slice none 0 0 => .pure []
 | .slice (some a) n _ => .get a.block fun
  | .cells c _ => match readCells c a.off n with
   | some l => AP.opt "" (decInts k l) .pure
   | none => .fail ""
  | _ => .fail ""
 | _ => .fail ""
@[go_sem] theorem rdInts_nil {k : IntKind} : rdInts k (.slice none 0 0) = .pure [] := rfl
def riB (k : IntKind) (off n : Nat) : ABlk → AP (List Int)
 | .cells c _ => match readCells c off n with
  | some l => AP.opt "" (decInts k l) .pure
  | none => .fail ""
 | _ => .fail ""
@[go_sem] theorem rdInts_slice {k : IntKind} {b off n c : Nat} {sp : Option Nat} : rdInts k (.slice (some ⟨b, off, sp⟩) n c) = .get b (riB k off n) := rfl
@[go_sem] theorem riB_row {k : IntKind} {off n : Nat} {L : List Value} {ro : Bool} : riB k off n (.cells (PT.ofList .leaf 0 L) ro) = cond (Nat.ble (off + n) L.length || Nat.beq n 0) (AP.opt "" (decInts k ((L.drop off).take n)) .pure) (.fail "") := by
 simp only [riB, readCells_row]
 cases (Nat.ble (off + n) L.length || Nat.beq n 0) <;> rfl
@[go_sem] theorem opt_some {α β : Type} {w : String} {a : α} {k : α → AP β} : AP.opt w (some a) k = k a := rfl
attribute [go_sem] decInts_map
end Go.Am
/-
 The abstract machine, for proofs with variables: functions that only look, and give numbers.
-/
set_option linter.unusedSimpArgs false
set_option linter.unusedVariables false
namespace Go.Am
inductive Plain : Value → Prop
 | bool (b : Bool) : Plain (.bool b)
 | int (k : IntKind) (n : Int) : Plain (.int k n)
 | string (s : ByteArray) : Plain (.string s)
 | nilptr : Plain (.pointer none)
 | nilslice (n c : Nat) : Plain (.slice none n c)
 | nilmap : Plain (.map none)
 | nilfunc : Plain .nilFunc
 | niliface : Plain .nilIface
 | agg (l : List Value) (h : ∀ v ∈ l, Plain v) : Plain (.agg ⟨l⟩)
 | tuple (l : List Value) (h : ∀ v ∈ l, Plain v) : Plain (.tuple ⟨l⟩)
theorem Plain.ren {I : Nat → Nat → Prop} {Old : Value → Prop} {v : Value} (h : Plain v) : VRen I Old v v := by
 induction h with
 | bool b => exact .bool b
 | int k n => exact .int k n
 | string s => exact .string s
 | nilptr => exact .nilptr
 | nilslice n c => exact .nilslice n c
 | nilmap => exact .nilmap
 | nilfunc => exact .nilfunc
 | niliface => exact .niliface
 | agg l _ ih => exact .agg l l (VRens.refl l ih)
 | tuple l _ ih => exact .tuple l l (VRens.refl l ih)
def Rows (h : PT ABlk) : Prop := ∀ i c ro, h.get i = some (.cells c ro) → ∃ L, c = .ofList .leaf 0 L
theorem soundF_query {P : Program} {O : Over} (hO : SoundO P O) (hmix : P.follows .mixedOrders = true) {f : FuncId} {spec : List Value → Option (AP Value)}
  (H : ∀ args m, spec args = some m → ∃ Pre : PT ABlk → Value → Prop, (∀ h n v s', Rows h → m.run 0 (S0 h n) = .ok v s' → s' = S0 h n ∧ Plain v ∧ Pre h v) ∧
   ∀ h N v, (∀ i B, h.get i = some B → i < N) → Pre h v → EvB P O f args h N fun v2 h2 n2 => v2 = v ∧ ∀ i, i < N → h2.get i = h.get i) : SoundF P f spec := by
 refine soundF hO hmix ?_
 intro args m hm h n N Old OldId v h1 n1 hr hold hid hn
 obtain ⟨Pre, hq, hB⟩ := H args m hm
 obtain ⟨hs, hp, hpre⟩ := hq h n v _ hold.rows hr
 have e1 : h1 = h := congrArg HS.heap hs
 have e2 : n1 = n := congrArg HS.next hs
 subst e1 e2
 have hlt : ∀ i B, h1.get i = some B → i < N := fun i B hi => (hid i (hold.id i B hi)).1
 obtain ⟨k, v2, h2, n2, e, rfl, hk⟩ := hB h1 N v hlt hpre
 exact ⟨k, v2, h2, n2, e, fun i => i, fun i h1 h2 => by omega, fun i j _ _ _ _ h => h, hp.ren, fun i B hi => .inl ⟨hi, by rw [hk i (hlt i B hi)]; exact hi⟩⟩
theorem EvB.mono {P : Program} {O : Over} {f : FuncId} {args : List Value} {h : PT ABlk} {n : Nat} {R R' : Value → PT ABlk → Nat → Prop} (e : EvB P O f args h n R) (hR : ∀ v h n, R v h n → R' v h n) : EvB P O f args h n R' := by
 obtain ⟨k, v, h', n', e, r⟩ := e
 exact ⟨k, v, h', n', e, hR _ _ _ r⟩
def Kept (h0 h : PT ABlk) : Prop := ∀ i B, h0.get i = some B → h.get i = some B
theorem Kept.refl (h : PT ABlk) : Kept h h := fun _ _ e => e
theorem Kept.set {h0 h : PT ABlk} {N j : Nat} {b : Option ABlk} (hN : ∀ i B, h0.get i = some B → i < N) (hj : N ≤ j) (hk : Kept h0 h) : Kept h0 (h.set j b) := by
 intro i B e
 have := hN i B e
 rw [PT.get_set_ne _ _ (by omega)]
 exact hk i B e
theorem IsInts.keep {k : IntKind} {h0 h : PT ABlk} {s : Value} {xs : List Int} (hs : IsInts k h0 s xs) (hk : Kept h0 h) : IsInts k h s xs := by
 rcases hs with hs | ⟨b, off, sp, cap, L, ro, e, hb, hB, hT⟩
 ·exact .inl hs
 ·exact .inr ⟨b, off, sp, cap, L, ro, e, hk _ _ hb, hB, hT⟩
@[go_sem] theorem bind_bind {α β γ : Type} (p : AP α) (f : α → AP β) (g : β → AP γ) : (p.bind f).bind g = p.bind fun a => (f a).bind g := by
 induction p with
 | pure a => rfl
 | fail w => rfl
 | get id k ih => simp only [AP.bind]; congr 1; funext b; exact ih b
 | set id b k ih => simp only [AP.bind, ih]
 | kill id k ih => simp only [AP.bind, ih]
 | new b k ih => simp only [AP.bind]; congr 1; funext i; exact ih i
theorem run_pure {v u : Value} {h : PT ABlk} {n : Nat} {s' : HS} (e : (AP.pure u).run 0 (S0 h n) = .ok v s') : s' = S0 h n ∧ v = u := by
 simp only [AP.run, Res.ok.injEq] at e; exact ⟨e.2.symm, e.1.symm⟩
end Go.Am
/-
 The abstract machine, for proofs with variables: programs that only look; closed functions; a call by what its body's run gives.
-/
set_option linter.unusedSimpArgs false
set_option linter.unusedVariables false
namespace Go.Am
open Go.RowKit
def AP.look {α : Type} (h : PT ABlk) : AP α → Option α
 | .pure a => some a
 | .get id k => match h.get id with
  | some b => (k b).look h
  | none => none
 | _ => none
inductive Reads {α : Type} : AP α → Prop
 | pure (a : α) : Reads (.pure a)
 | fail (w : String) : Reads (.fail w)
 | get (id : Nat) (k : ABlk → AP α) (h : ∀ b, Reads (k b)) : Reads (.get id k)
theorem Reads.bind {α β : Type} {p : AP α} {f : α → AP β} (hp : Reads p) (hf : ∀ a, Reads (f a)) : Reads (p.bind f) := by
 induction hp with
 | pure a => exact hf a
 | fail w => exact .fail w
 | get id k _ ih => exact .get id _ ih
theorem Reads.cond {α : Type} {b : Bool} {p q : AP α} (hp : Reads p) (hq : Reads q) : Reads (cond b p q) := by cases b <;> assumption
theorem Reads.opt {α β : Type} {w : String} {o : Option α} {f : α → AP β} (hf : ∀ a, Reads (f a)) : Reads (AP.opt w o f) := by cases o <;> first | exact .fail _ | exact hf _
theorem Reads.run {α : Type} {p : AP α} (hp : Reads p) {h : PT ABlk} {n : Nat} {a : α} {s' : HS} (e : p.run 0 (S0 h n) = .ok a s') : s' = S0 h n ∧ p.look h = some a := by
 induction hp with
 | pure b => simp only [AP.run, Res.ok.injEq] at e; exact ⟨e.2.symm, by rw [AP.look, e.1]⟩
 | fail w => simp [AP.run] at e
 | get id k _ ih =>
  simp only [AP.run, show (S0 h n).heap = h from rfl] at e
  cases hb : h.get id with
  | none => rw [hb] at e; simp at e
  | some b =>
   rw [hb] at e
   simp only [AP.look, hb]
   exact ih b e
theorem IsInts.look {k : IntKind} {h : PT ABlk} {s : Value} {xs : List Int} (hs : IsInts k h s xs) : (rdInts k s).look h = some xs := by
 rcases hs with ⟨rfl, rfl⟩ | ⟨b, off, sp, cap, L, ro, rfl, hb, hB, hT⟩
 ·rfl
 ·rw [rdInts_slice]; simp only [AP.look, hb, riB_row, hB, hT, decInts_map]; rfl
theorem soundF_look {P : Program} {O : Over} (hO : SoundO P O) (hmix : P.follows .mixedOrders = true) {f : FuncId} {spec : List Value → Option (AP Value)} (hR : ∀ args m, spec args = some m → Reads m)
  (hP : ∀ args m h v, spec args = some m → m.look h = some v → Plain v)
  (H : ∀ args m h N v, spec args = some m → Rows h → (∀ i B, h.get i = some B → i < N) → m.look h = some v → EvB P O f args h N fun v2 h2 n2 => v2 = v ∧ ∀ i, i < N → h2.get i = h.get i) : SoundF P f spec := by
 refine soundF_query hO hmix ?_
 intro args m hm
 refine ⟨fun h v => Rows h ∧ m.look h = some v, fun h n v s' hrows e => ?_, fun h N v hlt hv => H args m h N v hm hv.1 hlt hv.2⟩
 obtain ⟨h1, h2⟩ := (hR args m hm).run e
 exact ⟨h1, hP args m h v hm h2, hrows, h2⟩
def trueS : List Value → Option (AP Value)
 | [] => some (.pure (.bool true))
 | _ => none
theorem closedF {P : Program} {O : Over} (hO : SoundO P O) (hmix : P.follows .mixedOrders = true) {fuel : Nat} {f : FuncId} (hl : lawTrue P O fuel f = true) : SoundF P f trueS := by
 intro args m hm Γ W w h n lim rd wr args' v s' ha hS hr hfree
 unfold trueS at hm
 split at hm
 ·simp only [Option.some.injEq] at hm
  subst hm
  cases ha
  simp only [AP.run, Res.ok.injEq] at hr
  obtain ⟨rfl, rfl⟩ := hr
  unfold lawTrue at hl
  cases hc : callA P O (evC P O fuel) 0 f [] startHS with
  | fail q => rw [hc] at hl; simp [isTrue] at hl
  | ok v s' =>
   rw [hc] at hl
   have hv : v = .bool true := by
    unfold isTrue at hl
    split at hl
    ·rename_i he; simp only [Res.ok.injEq] at he; exact he.1
    ·simp at hl
   subst hv
   have hS0 : SRel ⟨fun _ => none, fun _ => none⟩ w .leaf w :=
    ⟨.refl _ _, fun _ _ => rfl, fun i B hB => by simp at hB, fun i j B B' b s b' s' _ hB => by simp at hB, fun i b s hb => by simp at hb, fun b n hb => by simp at hb, ⟨0, fun _ _ => rfl⟩, fun i c ro e => by simp at e⟩
   have := call_sound hO (ev_sound hO hmix fuel).1 (loc_ev fuel) hc (Nat.le_refl _) (fun id _ => by simp [startHS]) hS0 (fun id b hb => hb) .nil (fun _ _ _ => rfl) none
   refine CallsIn.mono (show CallsIn Fence.wide 0 P f ⟨[]⟩ w _ from this) ?_
   rintro en w' ⟨Γ2, v', H', rfl, hex, hvr⟩
   cases hvr
   have hb := hex.rel.below
   have hsame : ∀ i, i < w.heap.size → w'.heap[i]? = w.heap[i]? := hb.block
   refine ⟨Γ, .bool true, rfl, .refl _, ⟨?_, fun a ha => (hex.rel.fz a (Nat.lt_of_lt_of_le ha hS.below.size)).trans (hS.fz a ha), ?_, hS.disj, ?_, ?_, hS.fin, hS.rows⟩, fun _ _ => rfl, .bool _⟩
   ·exact ⟨hb.os.trans hS.below.os, hb.tape.trans hS.below.tape, hb.output.trans hS.below.output, Nat.le_trans hS.below.size hb.size, fun i hi => (hsame i (Nat.lt_of_lt_of_le hi hS.below.size)).trans (hS.below.block i hi)⟩
   ·intro i B hi
    obtain ⟨b, s, e, r, hw⟩ := hS.live i B hi
    exact ⟨b, s, e, r.world (hsame b (hS.dom i b s e)), hw⟩
   ·intro i b s e
    exact Nat.lt_of_lt_of_le (hS.dom i b s e) hb.size
   ·intro b n e
    obtain ⟨c, el, fz, h1, h2⟩ := hS.siz b n e
    exact ⟨c, el, fz, (hsame b (lt_of_heap h1)).trans h1, h2⟩
 ·simp at hm
theorem EvV_call {z : Zx} {f : FuncId} {args : List Value} {d : Option Nat} {ops r : List Oper} {K : List KF} {m : Tm} {h : PT ABlk} {n : Nat} {R : Value → PT ABlk → Nat → Prop} (hm : m.n = z.N) (hO : z.O f args = none)
  (e : EvB z.P z.O f args h n R) (hk : ∀ v h' n', R v h' n' → EvV z (.pure (.value v)) d ops r K m h' n') : EvV z (.pure (.enter f args)) d ops r K m h n := by
 obtain ⟨k, v, h', n', e, hR⟩ := e
 obtain ⟨_, k2, m', h2, n2, e2, q⟩ := hk v h' n' hR
 refine ⟨hm, max k k2, m', h2, n2, ?_, q⟩
 simp only [AP.run, bnd_ok_eq, nextA, callA, hO] at e2 ⊢
 rw [body_mono (evC_mono (Nat.le_max_left k k2)) e, bnd_ok_eq]
 exact bnd_mono (fun _ _ q => q) (fun a s _ b s' q => ops_mono (evC_mono (Nat.le_max_right k k2)) r q) e2
theorem EvQ_call {z : Zx} {f : FuncId} {args : List Value} {d : Option Nat} {ops r : List Oper} {K : List KF} {m : Tm} {h : PT ABlk} {n : Nat} {R : Value → PT ABlk → Nat → Prop} (hm : m.n = z.N) (hO : z.O f args = none)
  (e : EvB z.P z.O f args h n R) (hk : ∀ v h' n', R v h' n' → EvV z (.pure (.value v)) d ops r K m h' n') : EvQ z none f args d ops r K m h n := EvV_call hm hO e hk
end Go.Am
