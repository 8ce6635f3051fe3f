/-
  The abstract machine, for proofs with variables: a function's body against a summary on the abstract heap: what it leaves behind besides is forgotten, and its new blocks are named anew.
-/
import Derived.Test.YthhohpbghfbkbaaAmX4
set_option linter.unusedSimpArgs false
set_option linter.unusedVariables false
namespace Go.Am
open Go.RowKit

/-- A body's run: some fuel suffices. -/
def EvB (P : Program) (O : Over) (f : FuncId) (args : List Value) (h : PT ABlk) (n : Nat) (R : Value → PT ABlk → Nat → Prop) : Prop :=
  ∃ k v h' n', bodyA P (evC P O k) 0 f args (S0 h n) = .ok v (S0 h' n') ∧ R v h' n'

/-- What a result is, read off the heap. -/
def ldO (P : Program) (t : TypeId) (x : Value) (h : PT ABlk) : Option Value := match (aLoad P t x).run 0 (S0 h 0) with
  | .ok v _ => some v
  | .fail _ => none

def resV (P : Program) (m : Tm) (h : PT ABlk) : List ResultVar → Option (List Value)
  | [] => some []
  | .tmp t :: r => match resV P m h r with
    | some l => some (m.get t :: l)
    | none => none
  | .cell a t :: r => match ldO P t (m.get a) h with
    | some v => match resV P m h r with
      | some l => some (v :: l)
      | none => none
    | none => none

theorem load_any {P : Program} {t : TypeId} {x : Value} {h : PT ABlk} {v : Value} (n : Nat) (e : ldO P t x h = some v) : (aLoad P t x).run 0 (S0 h n) = .ok v (S0 h n) := by
  have key : ∀ n, (aLoad P t x).run 0 (S0 h n) = match ldO P t x h with | some v => .ok v (S0 h n) | none => (aLoad P t x).run 0 (S0 h n) := by
    intro n
    unfold ldO aLoad
    split
    · rename_i a i d _ _
      simp only [AP.run, show ∀ m, (S0 h m).heap = h from fun _ => rfl]
      cases h.get a.block with
      | none => rfl
      | some b =>
        simp only [show Nat.blt a.block 0 = false from rfl, cond_false]
        cases b <;> first | rfl | skip
        rename_i c ro
        cases isAgg d with
        | false => simp only [cond_false]; cases c.get a.off <;> rfl
        | true => simp only [cond_true]; cases readCells c a.off i.size <;> rfl
    · rfl
  rw [key n, e]

theorem res_run {P : Program} {m : Tm} {h : PT ABlk} {n : Nat} : ∀ {rs : List ResultVar} {l : List Value}, resV P m h rs = some l → resultsA P 0 m rs (S0 h n) = .ok l (S0 h n)
  | [], l, e => by simp only [resV, Option.some.injEq] at e; subst e; rfl
  | .tmp t :: r, l, e => by
    simp only [resV] at e
    cases hr : resV P m h r with
    | none => rw [hr] at e; simp at e
    | some l' =>
      rw [hr] at e
      simp only [Option.some.injEq] at e
      subst e
      show bnd (resultsA P 0 m r (S0 h n)) _ = _
      rw [res_run hr]; rfl
  | .cell a t :: r, l, e => by
    simp only [resV] at e
    cases hv : ldO P t (m.get a) h with
    | none => rw [hv] at e; simp at e
    | some v =>
      rw [hv] at e
      cases hr : resV P m h r with
      | none => rw [hr] at e; simp at e
      | some l' =>
        rw [hr] at e
        simp only [Option.some.injEq] at e
        subst e
        show bnd ((aLoad P t (m.get a)).run 0 (S0 h n)) _ = _
        rw [load_any n hv]
        show bnd (resultsA P 0 m r (S0 h n)) _ = _
        rw [res_run hr]; rfl

/-- The end of a body. -/
def Fin (P : Program) (rs : List ResultVar) (R : Value → PT ABlk → Nat → Prop) (e : AExit) (m : Tm) (h : PT ABlk) (n : Nat) : Prop :=
  (match e with | .exit _ => False | _ => True) ∧ m.dfs = [] ∧ ∃ l, resV P m h rs = some l ∧ R (oneOf l) h n

/-- The body of a function: what is to be shown. -/
theorem EvB_of {P : Program} {O : Over} {f : FuncId} {fn : Func} {c : Code} {args : List Value} {h : PT ABlk} {n : Nat} {R : Value → PT ABlk → Nat → Prop} (hf : P.funcs[f]? = some fn) (hb : fn.body = some c)
    (H : ∀ z : Zx, z.P = P → z.O = O → z.ro = none → z.N = args.length + (fn.ntmps - args.length) → z.Q = Fin P fn.results.toList R → EvK z c [] ⟨args.length + (fn.ntmps - args.length), PT.ofList .leaf 0 args, []⟩ h n) : EvB P O f args h n R := by
  obtain ⟨_, k, x, h', n', e, hx⟩ := H ⟨P, O, none, args.length + (fn.ntmps - args.length), Fin P fn.results.toList R⟩ rfl rfl rfl rfl rfl
  obtain ⟨_, hx, hd, l, hl, hR⟩ : _ ∧ Fin P fn.results.toList R x.1 x.2 h' n' := hx
  refine ⟨k, oneOf l, h', n', ?_, hR⟩
  simp only [bodyA, hf, hb]
  rw [e, bnd_ok_eq]
  unfold afterA
  rw [hd]
  cases hx1 : x.1 with
  | exit i => rw [hx1] at hx; exact hx.elim
  | normal => simp only [takeDfs, bnd_ok_eq]; rw [res_run hl]; rfl
  | ret => simp only [takeDfs, bnd_ok_eq]; rw [res_run hl]; rfl

/-! ### Blocks named anew -/

mutual
inductive VRen (I : Nat → Nat → Prop) (Old : Value → Prop) : Value → Value → Prop
  | old (v : Value) (h : Old v) : VRen I Old v v
  | bool (b : Bool) : VRen I Old (.bool b) (.bool b)
  | int (k : IntKind) (n : Int) : VRen I Old (.int k n) (.int k n)
  | string (s : ByteArray) : VRen I Old (.string s) (.string s)
  | nilptr : VRen I Old (.pointer none) (.pointer none)
  | ptr (b off b' : Nat) (h : I b b') : VRen I Old (.pointer (some ⟨b, off, none⟩)) (.pointer (some ⟨b', off, none⟩))
  | nilslice (n c : Nat) : VRen I Old (.slice none n c) (.slice none n c)
  | slice (b off n c b' : Nat) (h : I b b') : VRen I Old (.slice (some ⟨b, off, none⟩) n c) (.slice (some ⟨b', off, none⟩) n c)
  | nilmap : VRen I Old (.map none) (.map none)
  | map (r r' : Nat) (h : I r r') : VRen I Old (.map (some r)) (.map (some r'))
  | func (f : FuncId) (x x' y y' : List Value) (hx : VRens I Old x x') (hy : VRens I Old y y') : VRen I Old (.func (.func f) ⟨x⟩ ⟨y⟩) (.func (.func f) ⟨x'⟩ ⟨y'⟩)
  | nilfunc : VRen I Old .nilFunc .nilFunc
  | iface (t : TypeId) (v v' : Value) (h : VRen I Old v v') : VRen I Old (.iface t v) (.iface t v')
  | niliface : VRen I Old .nilIface .nilIface
  | agg (l l' : List Value) (h : VRens I Old l l') : VRen I Old (.agg ⟨l⟩) (.agg ⟨l'⟩)
  | tuple (l l' : List Value) (h : VRens I Old l l') : VRen I Old (.tuple ⟨l⟩) (.tuple ⟨l'⟩)
inductive VRens (I : Nat → Nat → Prop) (Old : Value → Prop) : List Value → List Value → Prop
  | nil : VRens I Old [] []
  | cons (v v' : Value) (l l' : List Value) (h : VRen I Old v v') (t : VRens I Old l l') : VRens I Old (v :: l) (v' :: l')
end

theorem VRens.get {I : Nat → Nat → Prop} {Old : Value → Prop} : ∀ {l l' : List Value} (_ : VRens I Old l l') {i : Nat} {v : Value}, l[i]? = some v → ∃ v', l'[i]? = some v' ∧ VRen I Old v v'
  | _, _, .nil, i, v, e => by simp at e
  | _, _, .cons _ v' _ _ h t, 0, v, e => by simp at e; subst e; exact ⟨v', rfl, h⟩
  | _, _, .cons _ _ _ _ h t, i + 1, v, e => by simp at e; simpa using VRens.get t e

theorem VRens.refl {I : Nat → Nat → Prop} {Old : Value → Prop} : ∀ (l : List Value), (∀ v ∈ l, VRen I Old v v) → VRens I Old l l
  | [], _ => .nil
  | v :: l, h => .cons _ _ _ _ (h v (by simp)) (VRens.refl l fun y hy => h y (by simp [hy]))

theorem VRens.append {I : Nat → Nat → Prop} {Old : Value → Prop} : ∀ {l l' m m' : List Value}, VRens I Old l l' → VRens I Old m m' → VRens I Old (l ++ m) (l' ++ m')
  | _, _, _, _, .nil, k => k
  | _, _, _, _, .cons _ _ _ _ h t, k => .cons _ _ _ _ h (t.append k)

mutual
theorem VRen.rel {I : Nat → Nat → Prop} {Old : Value → Prop} {Γ Γ' : Emb} (hI : ∀ j j', I j j' → Γ'.blk j = Γ.blk j') (hO : ∀ v, Old v → ∀ u, VRel Γ v u → VRel Γ' v u) (hz : Γ'.siz = Γ.siz) :
    ∀ {v v' u : Value}, VRen I Old v v' → VRel Γ v' u → VRel Γ' v u
  | _, _, _, .old v h, r => hO v h _ r
  | _, _, _, .bool b, .bool _ => .bool b
  | _, _, _, .int k n, .int _ _ => .int k n
  | _, _, _, .string s, .string _ => .string s
  | _, _, _, .nilptr, .nilptr => .nilptr
  | _, _, _, .ptr b off b' h, .ptr _ a' ha => .ptr _ a' ⟨rfl, ha.spot', let ⟨s, e, o⟩ := ha.at_; ⟨s, (hI _ _ h).trans e, o⟩⟩
  | _, _, _, .nilslice n c, .nilslice _ _ => .nilslice n c
  | _, _, _, .slice b off n c b' h, .slice _ a' _ _ c' ha hc => by
    refine .slice _ a' n c c' ?_ ?_
    · rcases ha with ha | ⟨h1, h2, h3, s, h4⟩
      · exact .inl ⟨rfl, ha.spot', let ⟨s, e, o⟩ := ha.at_; ⟨s, (hI _ _ h).trans e, o⟩⟩
      · exact .inr ⟨h1, h2, h3, s, (hI _ _ h).trans h4⟩
    · unfold Emb.cap at hc ⊢
      rw [hz]; exact hc
  | _, _, _, .nilmap, .nilmap => .nilmap
  | _, _, _, .map r r' h, .map _ u hu => .map _ u ((hI _ _ h).trans hu)
  | _, _, _, .func f x x' y y' hx hy, .func _ fn' _ a _ b ha hb hp => by
    refine .func _ fn' _ a _ b (VRens.rel hI hO hz hx ha) (VRens.rel hI hO hz hy hb) ?_
    cases hp with
    | plain _ hp => exact .plain _ hp
  | _, _, _, .nilfunc, .nilfunc => .nilfunc
  | _, _, _, .iface t v v' h, .iface _ _ u hu => .iface t v u (VRen.rel hI hO hz h hu)
  | _, _, _, .niliface, .niliface => .niliface
  | _, _, _, .agg l l' h, .agg _ u hu => .agg l u (VRens.rel hI hO hz h hu)
  | _, _, _, .tuple l l' h, .tuple _ u hu => .tuple l u (VRens.rel hI hO hz h hu)
theorem VRens.rel {I : Nat → Nat → Prop} {Old : Value → Prop} {Γ Γ' : Emb} (hI : ∀ j j', I j j' → Γ'.blk j = Γ.blk j') (hO : ∀ v, Old v → ∀ u, VRel Γ v u → VRel Γ' v u) (hz : Γ'.siz = Γ.siz) :
    ∀ {l l' u : List Value}, VRens I Old l l' → VRels Γ l' u → VRels Γ' l u
  | _, _, _, .nil, .nil => .nil
  | _, _, _, .cons _ _ _ _ h t, .cons _ _ _ _ hu tu => .cons _ _ _ _ (VRen.rel hI hO hz h hu) (VRens.rel hI hO hz t tu)
end

mutual
/-- What was represented before is represented by the same. -/
theorem VRel.down {Γ Γ₂ : Emb} (hle : Γ.le Γ₂) : ∀ {v u₀ u : Value}, VRel Γ v u₀ → VRel Γ₂ v u → VRel Γ v u
  | _, _, _, .bool b, .bool _ => .bool b
  | _, _, _, .int k n, .int _ _ => .int k n
  | _, _, _, .float k n, .float _ _ => .float k n
  | _, _, _, .complex k n m, .complex _ _ _ => .complex k n m
  | _, _, _, .string s, .string _ => .string s
  | _, _, _, .nilptr, .nilptr => .nilptr
  | _, _, _, .ptr a a₀ h₀, .ptr _ a' ha => .ptr a a' ⟨ha.spot, ha.spot', by
      obtain ⟨s, e, o⟩ := ha.at_
      obtain ⟨s₀, e₀, _⟩ := h₀.at_
      have := hle.blk _ _ e₀
      rw [e] at this
      obtain ⟨h1, rfl⟩ : a'.block = a₀.block ∧ s = s₀ := by simpa using this
      exact ⟨s, by rw [h1]; exact e₀, o⟩⟩
  | _, _, _, .nilslice n c, .nilslice _ _ => .nilslice n c
  | _, _, _, .slice a a₀ n c c₀ h₀ k₀, .slice _ a' _ _ c' ha hc => by
    obtain ⟨s₀, e₀⟩ := h₀.block
    have e₂ := hle.blk _ _ e₀
    refine .slice a a' n c c' ?_ ?_
    · rcases ha with ha | ⟨h1, h2, h3, s, h4⟩
      · refine .inl ⟨ha.spot, ha.spot', ?_⟩
        obtain ⟨s, e, o⟩ := ha.at_
        rw [e] at e₂
        obtain ⟨h1, rfl⟩ : a'.block = a₀.block ∧ s = s₀ := by simpa using e₂
        exact ⟨s, by rw [h1]; exact e₀, o⟩
      · refine .inr ⟨h1, h2, h3, s, ?_⟩
        rw [h4] at e₂
        obtain ⟨h1, rfl⟩ : a'.block = a₀.block ∧ s = s₀ := by simpa using e₂
        rw [h1]; exact e₀
    · have hb : a'.block = a₀.block := by
        obtain ⟨s, e⟩ := ha.block
        rw [e] at e₂
        exact (by simpa using e₂ : a'.block = a₀.block ∧ s = s₀).1
      unfold Emb.cap at hc k₀ ⊢
      split
      · rename_i hi
        rw [if_pos hi] at hc k₀
        obtain ⟨h1, M, h2, h3⟩ := hc
        obtain ⟨_, M₀, h4, _⟩ := k₀
        have := hle.siz _ _ h4
        rw [← hb, h2] at this
        obtain rfl : M = M₀ := by simpa using this
        exact ⟨h1, M, by rw [hb]; exact h4, h3⟩
      · rename_i hi
        rw [if_neg hi] at hc
        exact hc
  | _, _, _, .nilmap, .nilmap => .nilmap
  | _, _, _, .map r r₀ h₀, .map _ r' h => by
    have := hle.blk _ _ h₀
    rw [h] at this
    obtain rfl : r' = r₀ := by simpa using this
    exact .map _ _ h₀
  | _, _, _, .nilchan, .nilchan => .nilchan
  | _, _, _, .func fn _ f _ c _ hf hc hp, .func _ _ _ _ _ _ hf' hc' hp' => by
    refine .func _ _ _ _ _ _ (VRels.down hle hf hf') (VRels.down hle hc hc') ?_
    cases hp' with
    | plain _ h => exact .plain _ h
    | yield l l' h =>
      cases hp with
      | plain _ h' => exact absurd rfl (h' l)
      | yield _ l₀ h₀ =>
        have := hle.blk _ _ h₀
        rw [h] at this
        obtain rfl : l' = l₀ := by simpa using this
        exact .yield _ _ h₀
  | _, _, _, .nilfunc, .nilfunc => .nilfunc
  | _, _, _, .iface t v _ h, .iface _ _ _ h' => .iface t v _ (VRel.down hle h h')
  | _, _, _, .niliface, .niliface => .niliface
  | _, _, _, .agg l _ h, .agg _ _ h' => .agg l _ (VRels.down hle h h')
  | _, _, _, .tuple l _ h, .tuple _ _ h' => .tuple l _ (VRels.down hle h h')
theorem VRels.down {Γ Γ₂ : Emb} (hle : Γ.le Γ₂) : ∀ {l u₀ u : List Value}, VRels Γ l u₀ → VRels Γ₂ l u → VRels Γ l u
  | _, _, _, .nil, .nil => .nil
  | _, _, _, .cons _ _ _ _ h t, .cons _ _ _ _ h' t' => .cons _ _ _ _ (VRel.down hle h h') (VRels.down hle t t')
end

inductive PRens (I : Nat → Nat → Prop) (Old : Value → Prop) : List (Value × Value × Nat) → List (Value × Value × Nat) → Prop
  | nil : PRens I Old [] []
  | cons (p q : Value × Value × Nat) (l l' : List (Value × Value × Nat)) (hk : VRen I Old p.1 q.1) (hv : VRen I Old p.2.1 q.2.1) (hb : p.2.2 = q.2.2) (t : PRens I Old l l') : PRens I Old (p :: l) (q :: l')

theorem PRens.rel {I : Nat → Nat → Prop} {Old : Value → Prop} {Γ Γ' : Emb} (hI : ∀ j j', I j j' → Γ'.blk j = Γ.blk j') (hO : ∀ v, Old v → ∀ u, VRel Γ v u → VRel Γ' v u) (hz : Γ'.siz = Γ.siz) :
    ∀ {l l' : List (Value × Value × Nat)} {u : List MapEntry}, PRens I Old l l' → PRels Γ l' u → PRels Γ' l u
  | _, _, _, .nil, .nil => .nil
  | _, _, _, .cons _ _ _ _ hk hv hb t, .cons _ _ _ _ hk' hv' hb' t' => .cons _ _ _ _ (hk.rel hI hO hz hk') (hv.rel hI hO hz hv') (hb.trans hb') (t.rel hI hO hz t')

inductive BRen (I : Nat → Nat → Prop) (Old : Value → Prop) : ABlk → ABlk → Prop
  | cells (l l' : List Value) (ro : Bool) (h : VRens I Old l l') : BRen I Old (.cells (PT.ofList .leaf 0 l) ro) (.cells (PT.ofList .leaf 0 l') ro)
  | map (es es' : List (Value × Value × Nat)) (clk : Nat) (h : PRens I Old es es') : BRen I Old (.map es clk) (.map es' clk)

theorem BRen.rel {I : Nat → Nat → Prop} {Old : Value → Prop} {Γ Γ' : Emb} {w : World} (hI : ∀ j j', I j j' → Γ'.blk j = Γ.blk j') (hO : ∀ v, Old v → ∀ u, VRel Γ v u → VRel Γ' v u) (hz : Γ'.siz = Γ.siz) {B B' : ABlk} {b s : Nat}
    (h : BRen I Old B B') (r : BRel Γ w B' b s) : BRel Γ' w B b s := by
  cases h with
  | cells l l' ro h =>
    obtain ⟨cs, el, fz, h1, h2, h3⟩ := r
    refine ⟨cs, el, fz, h1, h2, fun i v e => ?_⟩
    rw [PT.get_ofList_leaf] at e
    obtain ⟨v', e', q⟩ := h.get e
    obtain ⟨u, e₂, q₂⟩ := h3 i v' (by rw [PT.get_ofList_leaf]; exact e')
    exact ⟨u, e₂, q.rel hI hO hz q₂⟩
  | map es es' clk h =>
    obtain ⟨h0, ents, h1, h2⟩ := r
    exact ⟨h0, ents, h1, h.rel hI hO hz h2⟩

theorem BRen.writable {I : Nat → Nat → Prop} {Old : Value → Prop} {B B' : ABlk} (h : BRen I Old B B') : B.writable ↔ B'.writable := by cases h <;> exact Iff.rfl

theorem PRels.down {Γ Γ₂ : Emb} (hle : Γ.le Γ₂) : ∀ {l : List (Value × Value × Nat)} {u₀ u : List MapEntry}, PRels Γ l u₀ → PRels Γ₂ l u → PRels Γ l u
  | _, _, _, .nil, .nil => .nil
  | _, _, _, .cons _ _ _ _ hk hv hb t, .cons _ _ _ _ hk' hv' hb' t' => .cons _ _ _ _ (VRel.down hle hk hk') (VRel.down hle hv hv') hb' (PRels.down hle t t')

theorem BRel.down {Γ Γ₂ : Emb} (hle : Γ.le Γ₂) {w w₂ : World} {B : ABlk} {b s : Nat} (h₀ : BRel Γ w B b s) (h : BRel Γ₂ w₂ B b s) : BRel Γ w₂ B b s := by
  cases B with
  | cells c ro =>
    obtain ⟨cs₀, el₀, fz₀, _, _, h3₀⟩ := h₀
    obtain ⟨cs, el, fz, h1, h2, h3⟩ := h
    refine ⟨cs, el, fz, h1, h2, fun i v e => ?_⟩
    obtain ⟨u₀, _, q₀⟩ := h3₀ i v e
    obtain ⟨u, e', q⟩ := h3 i v e
    exact ⟨u, e', VRel.down hle q₀ q⟩
  | map es clk =>
    obtain ⟨_, ents₀, _, h2₀⟩ := h₀
    obtain ⟨h0, ents, h1, h2⟩ := h
    exact ⟨h0, ents, h1, PRels.down hle h2₀ h2⟩
  | iter m since seen stepped =>
    obtain ⟨_, m₀, _, _, h3₀⟩ := h₀
    obtain ⟨h0, m', h1, h2, h3⟩ := h
    refine ⟨h0, m', h1, h2, fun r hr => ?_⟩
    obtain ⟨r₀, _, e₀⟩ := h3₀ r hr
    obtain ⟨r', e', e⟩ := h3 r hr
    have := hle.blk _ _ e₀
    rw [e] at this
    obtain rfl : r' = r₀ := by simpa using this
    exact ⟨r', e', e₀⟩
  | loop st pend tm ps as bd =>
    obtain ⟨_, L₀, _, _, _, ht₀, _⟩ := h₀
    obtain ⟨h0, L, h1, h2, h3, ht, h5⟩ := h
    exact ⟨h0, L, h1, h2, h3, ⟨ht.size, fun i => VRel.down hle (ht₀.get i) (ht.get i)⟩, h5⟩
  | deferred => exact h

end Go.Am
