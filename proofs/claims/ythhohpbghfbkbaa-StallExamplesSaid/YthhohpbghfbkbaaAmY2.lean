/-
  The abstract machine, for proofs with variables: functions that only look, and give numbers.
-/
import Derived.Test.YthhohpbghfbkbaaAmY1
set_option linter.unusedSimpArgs false
set_option linter.unusedVariables false
namespace Go.Am

/-- Values without addresses and without fractions. -/
inductive Plain : Value → Prop
  | bool (b : Bool) : Plain (.bool b)
  | int (k : IntKind) (n : Int) : Plain (.int k n)
  | string (s : ByteArray) : Plain (.string s)
  | nilptr : Plain (.pointer none)
  | nilslice (n c : Nat) : Plain (.slice none n c)
  | nilmap : Plain (.map none)
  | nilfunc : Plain .nilFunc
  | niliface : Plain .nilIface
  | agg (l : List Value) (h : ∀ v ∈ l, Plain v) : Plain (.agg ⟨l⟩)
  | tuple (l : List Value) (h : ∀ v ∈ l, Plain v) : Plain (.tuple ⟨l⟩)

theorem Plain.ren {I : Nat → Nat → Prop} {Old : Value → Prop} {v : Value} (h : Plain v) : VRen I Old v v := by
  induction h with
  | bool b => exact .bool b
  | int k n => exact .int k n
  | string s => exact .string s
  | nilptr => exact .nilptr
  | nilslice n c => exact .nilslice n c
  | nilmap => exact .nilmap
  | nilfunc => exact .nilfunc
  | niliface => exact .niliface
  | agg l _ ih => exact .agg l l (VRens.refl l ih)
  | tuple l _ ih => exact .tuple l l (VRens.refl l ih)

def Rows (h : PT ABlk) : Prop := ∀ i c ro, h.get i = some (.cells c ro) → ∃ L, c = .ofList .leaf 0 L

/-- A function that only looks: its summary reads, its body leaves what was there. -/
theorem soundF_query {P : Program} {O : Over} (hO : SoundO P O) (hmix : P.follows .mixedOrders = true) {f : FuncId} {spec : List Value → Option (AP Value)}
    (H : ∀ args m, spec args = some m → ∃ Pre : PT ABlk → Value → Prop, (∀ h n v s', Rows h → m.run 0 (S0 h n) = .ok v s' → s' = S0 h n ∧ Plain v ∧ Pre h v) ∧
      ∀ h N v, (∀ i B, h.get i = some B → i < N) → Pre h v → EvB P O f args h N fun v2 h2 n2 => v2 = v ∧ ∀ i, i < N → h2.get i = h.get i) : SoundF P f spec := by
  refine soundF hO hmix ?_
  intro args m hm h n N Old OldId v h1 n1 hr hold hid hn
  obtain ⟨Pre, hq, hB⟩ := H args m hm
  obtain ⟨hs, hp, hpre⟩ := hq h n v _ hold.rows hr
  have e1 : h1 = h := congrArg HS.heap hs
  have e2 : n1 = n := congrArg HS.next hs
  subst e1 e2
  have hlt : ∀ i B, h1.get i = some B → i < N := fun i B hi => (hid i (hold.id i B hi)).1
  obtain ⟨k, v2, h2, n2, e, rfl, hk⟩ := hB h1 N v hlt hpre
  exact ⟨k, v2, h2, n2, e, fun i => i, fun i h1 h2 => by omega, fun i j _ _ _ _ h => h, hp.ren, fun i B hi => .inl ⟨hi, by rw [hk i (hlt i B hi)]; exact hi⟩⟩

theorem EvB.mono {P : Program} {O : Over} {f : FuncId} {args : List Value} {h : PT ABlk} {n : Nat} {R R' : Value → PT ABlk → Nat → Prop} (e : EvB P O f args h n R) (hR : ∀ v h n, R v h n → R' v h n) : EvB P O f args h n R' := by
  obtain ⟨k, v, h', n', e, r⟩ := e
  exact ⟨k, v, h', n', e, hR _ _ _ r⟩

/-- All that was there is there. -/
def Kept (h0 h : PT ABlk) : Prop := ∀ i B, h0.get i = some B → h.get i = some B
theorem Kept.refl (h : PT ABlk) : Kept h h := fun _ _ e => e
theorem Kept.set {h0 h : PT ABlk} {N j : Nat} {b : Option ABlk} (hN : ∀ i B, h0.get i = some B → i < N) (hj : N ≤ j) (hk : Kept h0 h) : Kept h0 (h.set j b) := by
  intro i B e
  have := hN i B e
  rw [PT.get_set_ne _ _ (by omega)]
  exact hk i B e
theorem IsInts.keep {k : IntKind} {h0 h : PT ABlk} {s : Value} {xs : List Int} (hs : IsInts k h0 s xs) (hk : Kept h0 h) : IsInts k h s xs := by
  rcases hs with hs | ⟨b, off, sp, cap, L, ro, e, hb, hB, hT⟩
  · exact .inl hs
  · exact .inr ⟨b, off, sp, cap, L, ro, e, hk _ _ hb, hB, hT⟩

/-- Numbers that are read: known. -/
theorem EvV_ints {k : IntKind} {h0 h : PT ABlk} {s : Value} {xs : List Int} (hs : IsInts k h0 s xs) {z : Zx} {f : List Int → AP ANext} {d : Option Nat} {ops r : List Oper} {K : List KF} {m : Tm} {n : Nat} (hk : Kept h0 h) :
    EvV z ((rdInts k s).bind f) d ops r K m h n ↔ EvV z (f xs) d ops r K m h n := by
  rcases (hs.keep hk) with ⟨rfl, rfl⟩ | ⟨b, off, sp, cap, L, ro, rfl, hb, hB, hT⟩
  · rfl
  · rw [rdInts_slice, bind_get, EvV_get, hb, EvL_some, riB_row, hB, hT, decInts_map]; rfl
theorem EvX_ints {k : IntKind} {h0 h : PT ABlk} {s : Value} {xs : List Int} (hs : IsInts k h0 s xs) {z : Zx} {L : List (Nat × Nat)} {f : List Int → AP ANext} {d : Option Nat} {ops r : List Oper} {K : List KF} {m : Tm} {n lo : Nat} {rd wr : List Nat} {fs : List Foot} (hk : Kept h0 h) {b off : Nat} {sp : Option Nat} {n' c : Nat} (e : s = .slice (some ⟨b, off, sp⟩) n' c) :
    EvX z L ((rdInts k s).bind f) d ops r K m h n lo rd wr fs ↔ EvX z L (f xs) d ops r K m h n lo (b :: rd) wr fs := by
  rcases (hs.keep hk) with ⟨rfl, rfl⟩ | ⟨b', off', sp', cap', L', ro', rfl, hb, hB, hT⟩
  · cases e
  · cases e
    rw [rdInts_slice, bind_get, EvX_get, hb, EvXL_some, riB_row, hB, hT, decInts_map]; rfl
@[go_sem] theorem bind_bind {α β γ : Type} (p : AP α) (f : α → AP β) (g : β → AP γ) : (p.bind f).bind g = p.bind fun a => (f a).bind g := by
  induction p with
  | pure a => rfl
  | fail w => rfl
  | get id k ih => simp only [AP.bind]; congr 1; funext b; exact ih b
  | set id b k ih => simp only [AP.bind, ih]
  | kill id k ih => simp only [AP.bind, ih]
  | new b k ih => simp only [AP.bind]; congr 1; funext i; exact ih i

/-- Reading numbers, then a test, then a value. -/
theorem run_ints {k : IntKind} {s : Value} {f : List Int → AP Value} {h : PT ABlk} {n : Nat} {v : Value} {s' : HS} (hR : Rows h) (e : ((rdInts k s).bind f).run 0 (S0 h n) = .ok v s') : ∃ xs, IsInts k h s xs ∧ (f xs).run 0 (S0 h n) = .ok v s' := by
  rw [run_bind] at e
  obtain ⟨xs, s₁, e₁, e₂⟩ := bnd_ok e
  obtain ⟨rfl, hi⟩ := rdInts_run hR e₁
  exact ⟨xs, hi, e₂⟩
theorem run_pure {v u : Value} {h : PT ABlk} {n : Nat} {s' : HS} (e : (AP.pure u).run 0 (S0 h n) = .ok v s') : s' = S0 h n ∧ v = u := by
  simp only [AP.run, Res.ok.injEq] at e; exact ⟨e.2.symm, e.1.symm⟩
theorem run_cond {b : Bool} {p : AP Value} {w : String} {h : PT ABlk} {n : Nat} {v : Value} {s' : HS} (e : (cond b p (.fail w)).run 0 (S0 h n) = .ok v s') : b = true ∧ p.run 0 (S0 h n) = .ok v s' := by
  cases b with
  | false => simp [AP.run] at e
  | true => exact ⟨rfl, e⟩

end Go.Am
