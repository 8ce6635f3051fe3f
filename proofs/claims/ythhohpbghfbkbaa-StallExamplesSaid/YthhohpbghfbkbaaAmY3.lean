/-
  The abstract machine, for proofs with variables: programs that only look; closed functions; a call by what its body's run gives.
-/
import Derived.Test.YthhohpbghfbkbaaAmY2
set_option linter.unusedSimpArgs false
set_option linter.unusedVariables false
namespace Go.Am
open Go.RowKit

/-- What a program that only looks sees. -/
def AP.look {α : Type} (h : PT ABlk) : AP α → Option α
  | .pure a => some a
  | .get id k => match h.get id with
    | some b => (k b).look h
    | none => none
  | _ => none

/-- It only looks. -/
inductive Reads {α : Type} : AP α → Prop
  | pure (a : α) : Reads (.pure a)
  | fail (w : String) : Reads (.fail w)
  | get (id : Nat) (k : ABlk → AP α) (h : ∀ b, Reads (k b)) : Reads (.get id k)

theorem Reads.bind {α β : Type} {p : AP α} {f : α → AP β} (hp : Reads p) (hf : ∀ a, Reads (f a)) : Reads (p.bind f) := by
  induction hp with
  | pure a => exact hf a
  | fail w => exact .fail w
  | get id k _ ih => exact .get id _ ih
theorem Reads.cond {α : Type} {b : Bool} {p q : AP α} (hp : Reads p) (hq : Reads q) : Reads (cond b p q) := by cases b <;> assumption
theorem Reads.opt {α β : Type} {w : String} {o : Option α} {f : α → AP β} (hf : ∀ a, Reads (f a)) : Reads (AP.opt w o f) := by cases o <;> first | exact .fail _ | exact hf _
theorem Reads.run {α : Type} {p : AP α} (hp : Reads p) {h : PT ABlk} {n : Nat} {a : α} {s' : HS} (e : p.run 0 (S0 h n) = .ok a s') : s' = S0 h n ∧ p.look h = some a := by
  induction hp with
  | pure b => simp only [AP.run, Res.ok.injEq] at e; exact ⟨e.2.symm, by rw [AP.look, e.1]⟩
  | fail w => simp [AP.run] at e
  | get id k _ ih =>
    simp only [AP.run, show (S0 h n).heap = h from rfl] at e
    cases hb : h.get id with
    | none => rw [hb] at e; simp at e
    | some b =>
      rw [hb] at e
      simp only [AP.look, hb]
      exact ih b e

theorem look_keep {α : Type} {h h' : PT ABlk} (hk : Kept h h') : ∀ {p : AP α} {a : α}, p.look h = some a → p.look h' = some a
  | .pure b, a, e => e
  | .fail w, a, e => by simp [AP.look] at e
  | .set .., a, e => by simp [AP.look] at e
  | .kill .., a, e => by simp [AP.look] at e
  | .new .., a, e => by simp [AP.look] at e
  | .get id k, a, e => by
    simp only [AP.look] at e ⊢
    cases hb : h.get id with
    | none => rw [hb] at e; simp at e
    | some b => rw [hb] at e; rw [hk id b hb]; exact look_keep hk e

theorem look_bind {α β : Type} {h : PT ABlk} : ∀ (p : AP α) (f : α → AP β), (p.bind f).look h = (p.look h).bind fun a => (f a).look h
  | .pure b, f => rfl
  | .fail w, f => rfl
  | .set .., f => rfl
  | .kill .., f => rfl
  | .new .., f => rfl
  | .get id k, f => by
    simp only [AP.look, AP.bind]
    cases h.get id with
    | none => rfl
    | some b => exact look_bind (k b) f

theorem look_run {α : Type} {h : PT ABlk} {n : Nat} : ∀ {p : AP α} {a : α}, p.look h = some a → p.run 0 (S0 h n) = .ok a (S0 h n)
  | .pure b, a, e => by simp only [AP.look, Option.some.injEq] at e; subst e; rfl
  | .fail w, a, e => by simp [AP.look] at e
  | .set .., a, e => by simp [AP.look] at e
  | .kill .., a, e => by simp [AP.look] at e
  | .new .., a, e => by simp [AP.look] at e
  | .get id k, a, e => by
    simp only [AP.look] at e
    simp only [AP.run, show (S0 h n).heap = h from rfl]
    cases hb : h.get id with
    | none => rw [hb] at e; simp at e
    | some b => rw [hb] at e; exact look_run e

/-- What is known of what is looked at. -/
theorem EvV_look {α : Type} {p : AP α} {a : α} {h0 h : PT ABlk} (hs : p.look h0 = some a) {z : Zx} {f : α → AP ANext} {d : Option Nat} {ops r : List Oper} {K : List KF} {m : Tm} {n : Nat} (hk : Kept h0 h) :
    EvV z (p.bind f) d ops r K m h n ↔ EvV z (f a) d ops r K m h n := by
  unfold EvV
  simp only [run_bind, look_run (n := n) (look_keep hk hs), bnd_ok_eq]

theorem isInts_look {k : IntKind} {h : PT ABlk} {s : Value} {xs : List Int} (e : (rdInts k s).look h = some xs) (hR : Rows h) : IsInts k h s xs := (rdInts_run (n := 0) hR (look_run e)).2
theorem IsInts.look {k : IntKind} {h : PT ABlk} {s : Value} {xs : List Int} (hs : IsInts k h s xs) : (rdInts k s).look h = some xs := by
  rcases hs with ⟨rfl, rfl⟩ | ⟨b, off, sp, cap, L, ro, rfl, hb, hB, hT⟩
  · rfl
  · rw [rdInts_slice]; simp only [AP.look, hb, riB_row, hB, hT, decInts_map]; rfl
theorem rdInts_reads {k : IntKind} {s : Value} : Reads (rdInts k s) := by
  unfold rdInts
  split
  · exact .pure _
  · refine .get _ _ fun b => ?_
    split
    · split
      · exact .opt fun _ => .pure _
      · exact .fail _
    · exact .fail _
  · exact .fail _

/-- A function that only looks, by what it sees. -/
theorem soundF_look {P : Program} {O : Over} (hO : SoundO P O) (hmix : P.follows .mixedOrders = true) {f : FuncId} {spec : List Value → Option (AP Value)} (hR : ∀ args m, spec args = some m → Reads m)
    (hP : ∀ args m h v, spec args = some m → m.look h = some v → Plain v)
    (H : ∀ args m h N v, spec args = some m → Rows h → (∀ i B, h.get i = some B → i < N) → m.look h = some v → EvB P O f args h N fun v2 h2 n2 => v2 = v ∧ ∀ i, i < N → h2.get i = h.get i) : SoundF P f spec := by
  refine soundF_query hO hmix ?_
  intro args m hm
  refine ⟨fun h v => Rows h ∧ m.look h = some v, fun h n v s' hrows e => ?_, fun h N v hlt hv => H args m h N v hm hv.1 hlt hv.2⟩
  obtain ⟨h1, h2⟩ := (hR args m hm).run e
  exact ⟨h1, hP args m h v hm h2, hrows, h2⟩

/-- A closed function that gives true. -/
def trueS : List Value → Option (AP Value)
  | [] => some (.pure (.bool true))
  | _ => none

theorem closedF {P : Program} {O : Over} (hO : SoundO P O) (hmix : P.follows .mixedOrders = true) {fuel : Nat} {f : FuncId} (hl : lawTrue P O fuel f = true) : SoundF P f trueS := by
  intro args m hm Γ W w h n lim rd wr args' v s' ha hS hr hfree
  unfold trueS at hm
  split at hm
  · simp only [Option.some.injEq] at hm
    subst hm
    cases ha
    simp only [AP.run, Res.ok.injEq] at hr
    obtain ⟨rfl, rfl⟩ := hr
    unfold lawTrue at hl
    cases hc : callA P O (evC P O fuel) 0 f [] startHS with
    | fail q => rw [hc] at hl; simp [isTrue] at hl
    | ok v s' =>
      rw [hc] at hl
      have hv : v = .bool true := by
        unfold isTrue at hl
        split at hl
        · rename_i he; simp only [Res.ok.injEq] at he; exact he.1
        · simp at hl
      subst hv
      have hS0 : SRel ⟨fun _ => none, fun _ => none⟩ w .leaf w :=
        ⟨.refl _ _, fun _ _ => rfl, fun i B hB => by simp at hB, fun i j B B' b s b' s' _ hB => by simp at hB, fun i b s hb => by simp at hb, fun b n hb => by simp at hb, ⟨0, fun _ _ => rfl⟩, fun i c ro e => by simp at e⟩
      have := call_sound hO (ev_sound hO hmix fuel).1 (loc_ev fuel) hc (Nat.le_refl _) (fun id _ => by simp [startHS]) hS0 (fun id b hb => hb) .nil (fun _ _ _ => rfl) none
      refine CallsIn.mono (show CallsIn Fence.wide 0 P f ⟨[]⟩ w _ from this) ?_
      rintro en w' ⟨Γ2, v', H', rfl, hex, hvr⟩
      cases hvr
      have hb := hex.rel.below
      have hsame : ∀ i, i < w.heap.size → w'.heap[i]? = w.heap[i]? := hb.block
      refine ⟨Γ, .bool true, rfl, .refl _, ⟨?_, fun a ha => (hex.rel.fz a (Nat.lt_of_lt_of_le ha hS.below.size)).trans (hS.fz a ha), ?_, hS.disj, ?_, ?_, hS.fin, hS.rows⟩, fun _ _ => rfl, .bool _⟩
      · exact ⟨hb.os.trans hS.below.os, hb.tape.trans hS.below.tape, hb.output.trans hS.below.output, Nat.le_trans hS.below.size hb.size, fun i hi => (hsame i (Nat.lt_of_lt_of_le hi hS.below.size)).trans (hS.below.block i hi)⟩
      · intro i B hi
        obtain ⟨b, s, e, r, hw⟩ := hS.live i B hi
        exact ⟨b, s, e, r.world (hsame b (hS.dom i b s e)), hw⟩
      · intro i b s e
        exact Nat.lt_of_lt_of_le (hS.dom i b s e) hb.size
      · intro b n e
        obtain ⟨c, el, fz, h1, h2⟩ := hS.siz b n e
        exact ⟨c, el, fz, (hsame b (lt_of_heap h1)).trans h1, h2⟩
  · simp at hm

/-- A call that is walked into: by what its body's run gives. -/
theorem EvV_call {z : Zx} {f : FuncId} {args : List Value} {d : Option Nat} {ops r : List Oper} {K : List KF} {m : Tm} {h : PT ABlk} {n : Nat} {R : Value → PT ABlk → Nat → Prop} (hm : m.n = z.N) (hO : z.O f args = none)
    (e : EvB z.P z.O f args h n R) (hk : ∀ v h' n', R v h' n' → EvV z (.pure (.value v)) d ops r K m h' n') : EvV z (.pure (.enter f args)) d ops r K m h n := by
  obtain ⟨k, v, h', n', e, hR⟩ := e
  obtain ⟨_, k2, m', h2, n2, e2, q⟩ := hk v h' n' hR
  refine ⟨hm, max k k2, m', h2, n2, ?_, q⟩
  simp only [AP.run, bnd_ok_eq, nextA, callA, hO] at e2 ⊢
  rw [body_mono (evC_mono (Nat.le_max_left k k2)) e, bnd_ok_eq]
  exact bnd_mono (fun _ _ q => q) (fun a s _ b s' q => ops_mono (evC_mono (Nat.le_max_right k k2)) r q) e2

/-- The same, where the goal stands at the call's look-up. -/
theorem EvQ_call {z : Zx} {f : FuncId} {args : List Value} {d : Option Nat} {ops r : List Oper} {K : List KF} {m : Tm} {h : PT ABlk} {n : Nat} {R : Value → PT ABlk → Nat → Prop} (hm : m.n = z.N) (hO : z.O f args = none)
    (e : EvB z.P z.O f args h n R) (hk : ∀ v h' n', R v h' n' → EvV z (.pure (.value v)) d ops r K m h' n') : EvQ z none f args d ops r K m h n := EvV_call hm hO e hk

end Go.Am
