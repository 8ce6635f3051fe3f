/-
  The abstract machine: the trie's laws; when an abstract value and heap stand for the model's; what reading, writing and laying a block keep.
-/
import Derived.Test.YtbceiadaihphaaaGreatAmB
import Derived.Below
import Derived.Laws.Cells
import Derived.Laws.Entries
set_option linter.unusedSimpArgs false
set_option linter.unusedVariables false
namespace Go.Am
open Go.RowKit
def ofBits : List Bool → Nat
 | [] => 0
 | b :: k => 2 * ofBits k + b.toNat
theorem ofBits_bits : ∀ f n, n ≤ f → ofBits (bits f n) = n
 | 0, n, h => by
  obtain rfl : n = 0 := by omega
  rfl
 | f + 1, n, h => by
  unfold bits
  cases hb : Nat.beq n 0 with
  | true => have := Nat.eq_of_beq_eq_true hb; simp [ofBits, this]
  | false =>
   have hn : n ≠ 0 := fun e => by rw [e] at hb; exact Bool.noConfusion hb
   have hd : Nat.div n 2 = n / 2 := rfl
   have hm : Nat.mod n 2 = n % 2 := rfl
   simp only [cond_false, ofBits, hd, hm]
   rw [ofBits_bits f (n / 2) (by omega)]
   cases hq : Nat.beq (n % 2) 1 with
   | true => have := Nat.eq_of_beq_eq_true hq; simp; omega
   | false =>
    have : n % 2 ≠ 1 := fun e => by rw [e] at hq; exact Bool.noConfusion hq
    simp; omega
theorem bits_inj {n m : Nat} (h : bits n n = bits m m) : n = m := by
 rw [← ofBits_bits n n (Nat.le_refl _), ← ofBits_bits m m (Nat.le_refl _), h]
section trie
variable {α : Type}
@[simp] theorem PT.getL_leaf (k : List Bool) : PT.getL k (.leaf : PT α) = none := by cases k <;> rfl
theorem PT.getL_setL_same : ∀ (k : List Bool) (v : Option α) (t : PT α), (t.setL k v).getL k = v
 | [], v, .leaf => rfl
 | [], v, .node _ _ _ => rfl
 | true :: k, v, .leaf => by simp [PT.setL, PT.getL, PT.getL_setL_same k]
 | false :: k, v, .leaf => by simp [PT.setL, PT.getL, PT.getL_setL_same k]
 | true :: k, v, .node _ _ _ => by simp [PT.setL, PT.getL, PT.getL_setL_same k]
 | false :: k, v, .node _ _ _ => by simp [PT.setL, PT.getL, PT.getL_setL_same k]
theorem PT.getL_setL_ne : ∀ (k k' : List Bool) (v : Option α) (t : PT α), k ≠ k' → (t.setL k v).getL k' = t.getL k'
 | [], [], _, _, h => absurd rfl h
 | [], b :: k', v, .leaf, _ => by cases b <;> simp [PT.setL, PT.getL]
 | [], b :: k', v, .node _ _ _, _ => by cases b <;> simp [PT.setL, PT.getL]
 | b :: k, [], v, .leaf, _ => by cases b <;> simp [PT.setL, PT.getL]
 | b :: k, [], v, .node _ _ _, _ => by cases b <;> simp [PT.setL, PT.getL]
 | true :: k, true :: k', v, .leaf, h => by simpa [PT.setL, PT.getL] using PT.getL_setL_ne k k' v .leaf (fun e => h (by rw [e]))
 | false :: k, false :: k', v, .leaf, h => by simpa [PT.setL, PT.getL] using PT.getL_setL_ne k k' v .leaf (fun e => h (by rw [e]))
 | true :: k, false :: k', v, .leaf, _ => by simp [PT.setL, PT.getL]
 | false :: k, true :: k', v, .leaf, _ => by simp [PT.setL, PT.getL]
 | true :: k, true :: k', v, .node _ _ r, h => by simpa [PT.setL, PT.getL] using PT.getL_setL_ne k k' v r (fun e => h (by rw [e]))
 | false :: k, false :: k', v, .node l _ _, h => by simpa [PT.setL, PT.getL] using PT.getL_setL_ne k k' v l (fun e => h (by rw [e]))
 | true :: k, false :: k', v, .node _ _ _, _ => by simp [PT.setL, PT.getL]
 | false :: k, true :: k', v, .node _ _ _, _ => by simp [PT.setL, PT.getL]
theorem PT.get_set_same (t : PT α) (n : Nat) (v : Option α) : (t.set n v).get n = v := PT.getL_setL_same _ _ _
theorem PT.get_set_ne (t : PT α) {n m : Nat} (v : Option α) (h : n ≠ m) : (t.set n v).get m = t.get m :=
 PT.getL_setL_ne _ _ _ _ fun e => h (bits_inj e)
theorem PT.get_set (t : PT α) (n m : Nat) (v : Option α) : (t.set n v).get m = if m = n then v else t.get m := by
 by_cases h : m = n
 ·subst h; simp [PT.get_set_same]
 ·simp [h, PT.get_set_ne t v (Ne.symm h)]
@[simp] theorem PT.get_leaf (n : Nat) : (PT.leaf : PT α).get n = none := PT.getL_leaf _
theorem PT.get_ofList : ∀ (l : List α) (t : PT α) (off i : Nat), (t.ofList off l).get i = if off ≤ i ∧ i < off + l.length then l[i - off]? else t.get i
 | [], t, off, i => by
  have : ¬ (off ≤ i ∧ i < off + 0) := by omega
  simp only [PT.ofList, List.length_nil, this, if_false]
 | v :: vs, t, off, i => by
  rw [PT.ofList, PT.get_ofList vs, PT.get_set]
  by_cases h : i = off
  ·subst h
   have h1 : ¬ (i + 1 ≤ i ∧ i < i + 1 + vs.length) := by omega
   have h2 : i ≤ i ∧ i < i + (v :: vs).length := by simp
   rw [if_neg h1, if_pos rfl, if_pos h2]; simp
  ·by_cases h1 : off + 1 ≤ i ∧ i < off + 1 + vs.length
   ·have h2 : off ≤ i ∧ i < off + (v :: vs).length := by simp; omega
    rw [if_pos h1, if_pos h2, show i - off = (i - (off + 1)) + 1 by omega]; simp
   ·have h2 : ¬ (off ≤ i ∧ i < off + (v :: vs).length) := by simp; omega
    rw [if_neg h1, if_neg h2, if_neg h]
theorem PT.get_ofList_leaf (l : List α) (i : Nat) : ((PT.leaf : PT α).ofList 0 l).get i = l[i]? := by
 rw [PT.get_ofList]
 by_cases h : i < l.length
 ·simp [h]
 ·simp [h]
end trie
theorem PT.setL_setL_same {α : Type} : ∀ (k : List Bool) (u v : Option α) (t : PT α), (t.setL k u).setL k v = t.setL k v
 | [], u, v, .leaf => rfl
 | [], u, v, .node _ _ _ => rfl
 | true :: k, u, v, .leaf => by simp [PT.setL, PT.setL_setL_same k]
 | false :: k, u, v, .leaf => by simp [PT.setL, PT.setL_setL_same k]
 | true :: k, u, v, .node _ _ _ => by simp [PT.setL, PT.setL_setL_same k]
 | false :: k, u, v, .node _ _ _ => by simp [PT.setL, PT.setL_setL_same k]
theorem PT.setL_comm {α : Type} : ∀ (k k' : List Bool) (u v : Option α) (t : PT α), k ≠ k' → (t.setL k u).setL k' v = (t.setL k' v).setL k u
 | [], [], _, _, _, h => absurd rfl h
 | [], b :: k', u, v, .leaf, _ => by cases b <;> simp [PT.setL]
 | [], b :: k', u, v, .node _ _ _, _ => by cases b <;> simp [PT.setL]
 | b :: k, [], u, v, .leaf, _ => by cases b <;> simp [PT.setL]
 | b :: k, [], u, v, .node _ _ _, _ => by cases b <;> simp [PT.setL]
 | true :: k, true :: k', u, v, .leaf, h => by simp [PT.setL, PT.setL_comm k k' u v .leaf (fun e => h (by rw [e]))]
 | false :: k, false :: k', u, v, .leaf, h => by simp [PT.setL, PT.setL_comm k k' u v .leaf (fun e => h (by rw [e]))]
 | true :: k, true :: k', u, v, .node l x r, h => by simp [PT.setL, PT.setL_comm k k' u v r (fun e => h (by rw [e]))]
 | false :: k, false :: k', u, v, .node l x r, h => by simp [PT.setL, PT.setL_comm k k' u v l (fun e => h (by rw [e]))]
 | true :: k, false :: k', u, v, .leaf, _ => by simp [PT.setL]
 | false :: k, true :: k', u, v, .leaf, _ => by simp [PT.setL]
 | true :: k, false :: k', u, v, .node _ _ _, _ => by simp [PT.setL]
 | false :: k, true :: k', u, v, .node _ _ _, _ => by simp [PT.setL]
theorem PT.set_set {α : Type} (t : PT α) (i : Nat) (u v : Option α) : (t.set i u).set i v = t.set i v := PT.setL_setL_same _ _ _ _
theorem PT.set_comm {α : Type} (t : PT α) {i j : Nat} (u v : Option α) (h : i ≠ j) : (t.set i u).set j v = (t.set j v).set i u := PT.setL_comm _ _ _ _ _ fun e => h (bits_inj e)
theorem PT.ofList_set_ne {α : Type} : ∀ (L : List α) (t : PT α) (off i : Nat) (v : Option α), i < off → (PT.ofList t off L).set i v = PT.ofList (t.set i v) off L
 | [], t, off, i, v, h => rfl
 | x :: L, t, off, i, v, h => by
  rw [PT.ofList, PT.ofList_set_ne L _ _ _ _ (by omega), PT.ofList, PT.set_comm _ _ _ (by omega)]
theorem PT.ofList_set {α : Type} : ∀ (L : List α) (t : PT α) (off i : Nat) (v : α), i < L.length → (PT.ofList t off L).set (off + i) (some v) = PT.ofList t off (L.set i v)
 | [], t, off, i, v, h => by simp at h
 | x :: L, t, off, 0, v, h => by
  rw [PT.ofList, PT.ofList_set_ne L _ _ _ _ (by omega), Nat.add_zero, PT.set_set]; rfl
 | x :: L, t, off, i + 1, v, h => by
  rw [PT.ofList, show off + (i + 1) = (off + 1) + i by omega, PT.ofList_set L _ _ _ _ (by simpa using h)]; rfl
theorem row_set (L : List Value) (i : Nat) (v : Value) (h : i < L.length) : (PT.ofList .leaf 0 L).set i (some v) = PT.ofList .leaf 0 (L.set i v) := by
 have := PT.ofList_set L .leaf 0 i v h
 rwa [Nat.zero_add] at this
structure Emb where
 blk : Nat → Option (Nat × Nat)
 siz : Nat → Option Nat
structure Emb.le (Γ Γ' : Emb) : Prop where
 blk : ∀ i x, Γ.blk i = some x → Γ'.blk i = some x
 siz : ∀ b n, Γ.siz b = some n → Γ'.siz b = some n
theorem Emb.le.refl (Γ : Emb) : Γ.le Γ := ⟨fun _ _ h => h, fun _ _ h => h⟩
theorem Emb.le.trans {a b c : Emb} (h : a.le b) (k : b.le c) : a.le c := ⟨fun i x e => k.blk i x (h.blk i x e), fun i x e => k.siz i x (h.siz i x e)⟩
structure Emb.addr (Γ : Emb) (a a' : Addr) : Prop where
 spot : a.spot = none
 spot' : a'.spot = none
 at_ : ∃ s, Γ.blk a.block = some (a'.block, s) ∧ a'.off = s + a.off
theorem Emb.addr.mono {Γ Γ' : Emb} (h : Γ.le Γ') {a a' : Addr} (k : Γ.addr a a') : Γ'.addr a a' :=
 ⟨k.spot, k.spot', let ⟨s, e, o⟩ := k.at_; ⟨s, h.blk _ _ e, o⟩⟩
def Emb.cap (Γ : Emb) (a' : Addr) (n c c' : Nat) : Prop :=
 if capInf ≤ c then n ≤ c' ∧ ∃ N, Γ.siz a'.block = some N ∧ a'.off + c' * (c - capInf) ≤ N else c' = c
theorem Emb.cap.mono {Γ Γ' : Emb} (h : Γ.le Γ') {a' : Addr} {n c c' : Nat} (k : Γ.cap a' n c c') : Γ'.cap a' n c c' := by
 unfold Emb.cap at *
 split
 ·rename_i hc; rw [if_pos hc] at k; exact ⟨k.1, let ⟨N, e, o⟩ := k.2; ⟨N, h.siz _ _ e, o⟩⟩
 ·rename_i hc; rw [if_neg hc] at k; exact k
def Emb.addr' (Γ : Emb) (n c : Nat) (a a' : Addr) : Prop :=
 Γ.addr a a' ∨ (n = 0 ∧ capInf ≤ c ∧ a'.spot = none ∧ ∃ s, Γ.blk a.block = some (a'.block, s)) ∨ (n = 0 ∧ c = 0)
theorem Emb.addr'.mono {Γ Γ' : Emb} (h : Γ.le Γ') {n c : Nat} {a a' : Addr} (k : Γ.addr' n c a a') : Γ'.addr' n c a a' :=
 k.imp (·.mono h) (·.imp (fun ⟨h0, h1, h2, s, h3⟩ => ⟨h0, h1, h2, s, h.blk _ _ h3⟩) id)
theorem Emb.addr'.spot' {Γ : Emb} {n c : Nat} {a a' : Addr} (k : Γ.addr' n c a a') (hc : 0 < c) : a'.spot = none := by
 rcases k with k | k | k
 ·exact k.spot'
 ·exact k.2.2.1
 ·exact absurd k.2 (by omega)
theorem Emb.addr'.block {Γ : Emb} {n c : Nat} {a a' : Addr} (k : Γ.addr' n c a a') (hc : 0 < c) : ∃ s, Γ.blk a.block = some (a'.block, s) := by
 rcases k with k | k | k
 ·obtain ⟨s, e, _⟩ := k.at_; exact ⟨s, e⟩
 ·exact k.2.2.2
 ·exact absurd k.2 (by omega)
theorem Emb.addr'.exact {Γ : Emb} {n c : Nat} {a a' : Addr} (k : Γ.addr' n c a a') (h : 0 < n ∨ (¬ capInf ≤ c ∧ 0 < c)) : Γ.addr a a' := by
 rcases k with k | k | k
 ·exact k
 ·rcases h with h | h
  ·exact absurd k.1 (by omega)
  ·exact absurd k.2.1 h.1
 ·rcases h with h | h
  ·exact absurd k.1 (by omega)
  ·exact absurd k.2 (by omega)
inductive FnRel (Γ : Emb) : Fn → Fn → Prop
 | plain (fn : Fn) (h : ∀ l, fn ≠ .yield l) : FnRel Γ fn fn
 | yield (l l' : Nat) (h : Γ.blk l = some (l', 0)) : FnRel Γ (.yield l) (.yield l')
theorem FnRel.mono {Γ Γ' : Emb} (h : Γ.le Γ') {f f' : Fn} (k : FnRel Γ f f') : FnRel Γ' f f' := by
 cases k with
 | plain _ hp => exact .plain _ hp
 | yield l l' hl => exact .yield l l' (h.blk _ _ hl)
mutual
inductive VRel (Γ : Emb) : Value → Value → Prop
 | bool (b : Bool) : VRel Γ (.bool b) (.bool b)
 | int (k : IntKind) (n : Int) : VRel Γ (.int k n) (.int k n)
 | float (k : FloatKind) (n : Nat) : VRel Γ (.float k n) (.float k n)
 | complex (k : FloatKind) (n m : Nat) : VRel Γ (.complex k n m) (.complex k n m)
 | string (s : ByteArray) : VRel Γ (.string s) (.string s)
 | nilptr : VRel Γ (.pointer none) (.pointer none)
 | ptr (a a' : Addr) (h : Γ.addr a a') : VRel Γ (.pointer (some a)) (.pointer (some a'))
 | nilslice (n c : Nat) : VRel Γ (.slice none n c) (.slice none n c)
 | slice (a a' : Addr) (n c c' : Nat) (h : Γ.addr' n c a a') (hc : Γ.cap a' n c c') : VRel Γ (.slice (some a) n c) (.slice (some a') n c')
 | nilmap : VRel Γ (.map none) (.map none)
 | map (r r' : Nat) (h : Γ.blk r = some (r', 0)) : VRel Γ (.map (some r)) (.map (some r'))
 | nilchan : VRel Γ (.chan none) (.chan none)
 | func (fn fn' : Fn) (f f' c c' : List Value) (hf : VRels Γ f f') (hc : VRels Γ c c') (hp : FnRel Γ fn fn') : VRel Γ (.func fn ⟨f⟩ ⟨c⟩) (.func fn' ⟨f'⟩ ⟨c'⟩)
 | nilfunc : VRel Γ .nilFunc .nilFunc
 | iface (t : TypeId) (v v' : Value) (h : VRel Γ v v') : VRel Γ (.iface t v) (.iface t v')
 | niliface : VRel Γ .nilIface .nilIface
 | agg (l l' : List Value) (h : VRels Γ l l') : VRel Γ (.agg ⟨l⟩) (.agg ⟨l'⟩)
 | tuple (l l' : List Value) (h : VRels Γ l l') : VRel Γ (.tuple ⟨l⟩) (.tuple ⟨l'⟩)
inductive VRels (Γ : Emb) : List Value → List Value → Prop
 | nil : VRels Γ [] []
 | cons (v v' : Value) (l l' : List Value) (h : VRel Γ v v') (t : VRels Γ l l') : VRels Γ (v :: l) (v' :: l')
end
mutual
theorem VRel.mono {Γ Γ' : Emb} (h : Γ.le Γ') : ∀ {v v' : Value}, VRel Γ v v' → VRel Γ' v v'
 | _, _, .bool b => .bool b
 | _, _, .int k n => .int k n
 | _, _, .float k n => .float k n
 | _, _, .complex k n m => .complex k n m
 | _, _, .string s => .string s
 | _, _, .nilptr => .nilptr
 | _, _, .ptr a a' e => .ptr a a' (e.mono h)
 | _, _, .nilslice n c => .nilslice n c
 | _, _, .slice a a' n c c' e k => .slice a a' n c c' (e.mono h) (k.mono h)
 | _, _, .nilmap => .nilmap
 | _, _, .map r r' e => .map r r' (h.blk _ _ e)
 | _, _, .nilchan => .nilchan
 | _, _, .func fn fn' f f' c c' e k hp => .func fn fn' f f' c c' (VRels.mono h e) (VRels.mono h k) (hp.mono h)
 | _, _, .nilfunc => .nilfunc
 | _, _, .iface t v v' e => .iface t v v' (VRel.mono h e)
 | _, _, .niliface => .niliface
 | _, _, .agg l l' e => .agg l l' (VRels.mono h e)
 | _, _, .tuple l l' e => .tuple l l' (VRels.mono h e)
theorem VRels.mono {Γ Γ' : Emb} (h : Γ.le Γ') : ∀ {l l' : List Value}, VRels Γ l l' → VRels Γ' l l'
 | _, _, .nil => .nil
 | _, _, .cons v v' l l' e k => .cons v v' l l' (VRel.mono h e) (VRels.mono h k)
end
theorem VRels.length {Γ : Emb} : ∀ {l l' : List Value}, VRels Γ l l' → l'.length = l.length
 | _, _, .nil => rfl
 | _, _, .cons _ _ _ _ _ t => by simp [VRels.length t]
theorem VRels.get {Γ : Emb} : ∀ {l l' : List Value} (_ : VRels Γ l l') {i : Nat} {v : Value}, l[i]? = some v → ∃ v', l'[i]? = some v' ∧ VRel Γ v v'
 | _, _, .nil, i, v, e => by simp at e
 | _, _, .cons _ v' _ _ h t, 0, v, e => by simp at e; subst e; exact ⟨v', rfl, h⟩
 | _, _, .cons _ _ _ _ h t, i + 1, v, e => by simp at e; simpa using VRels.get t e
theorem VRels.append {Γ : Emb} : ∀ {l l' m m' : List Value}, VRels Γ l l' → VRels Γ m m' → VRels Γ (l ++ m) (l' ++ m')
 | _, _, _, _, .nil, k => k
 | _, _, _, _, .cons v v' l l' h t, k => .cons v v' _ _ h (VRels.append t k)
theorem VRels.take {Γ : Emb} : ∀ {l l' : List Value} (n : Nat), VRels Γ l l' → VRels Γ (l.take n) (l'.take n)
 | _, _, 0, _ => by simpa using .nil
 | _, _, n + 1, .nil => by simpa using .nil
 | _, _, n + 1, .cons v v' l l' h t => by simpa using .cons v v' _ _ h (VRels.take n t)
theorem VRels.drop {Γ : Emb} : ∀ {l l' : List Value} (n : Nat), VRels Γ l l' → VRels Γ (l.drop n) (l'.drop n)
 | _, _, 0, h => by simpa using h
 | _, _, n + 1, .nil => by simpa using .nil
 | _, _, n + 1, .cons v v' l l' h t => by simpa using VRels.drop n t
theorem VRels.map {Γ : Emb} {α : Type} {f f' : α → Value} : ∀ (l : List α), (∀ x ∈ l, VRel Γ (f x) (f' x)) → VRels Γ (l.map f) (l.map f')
 | [], _ => .nil
 | x :: l, h => .cons _ _ _ _ (h x (by simp)) (VRels.map l fun y hy => h y (by simp [hy]))
theorem VRels.of_all {Γ : Emb} : ∀ (l : List Value), (∀ v ∈ l, VRel Γ v v) → VRels Γ l l
 | [], _ => .nil
 | v :: l, h => .cons _ _ _ _ (h v (by simp)) (VRels.of_all l fun y hy => h y (by simp [hy]))
theorem flat_rel {Γ : Emb} : ∀ (n : Nat) (v : Value), flat n v = true → VRel Γ v v := by
 intro n
 induction n with
 | zero =>
  intro v h
  unfold flat at h
  split at h <;> first
   | (constructor; done)
   | (exact .func _ _ _ _ _ _ .nil .nil (.plain _ (fun _ e => by cases e)))
   | (rename_i e; exact absurd e (by omega))
   | (exact absurd h (by decide))
 | succ n ih =>
  intro v h
  unfold flat at h
  split at h <;> first
   | (constructor; done)
   | (exact .func _ _ _ _ _ _ .nil .nil (.plain _ (fun _ e => by cases e)))
   | (rename_i cs e; obtain rfl := Nat.succ.inj e; obtain ⟨l⟩ := cs; exact .agg l l (VRels.of_all l fun v hv => ih v (List.all_eq_true.1 h v hv)))
   | (rename_i cs e; obtain rfl := Nat.succ.inj e; obtain ⟨l⟩ := cs; exact .tuple l l (VRels.of_all l fun v hv => ih v (List.all_eq_true.1 h v hv)))
   | (rename_i e; obtain rfl := Nat.succ.inj e; exact .iface _ _ _ (ih _ h))
   | (exact absurd h (by decide))
structure TmRel (Γ : Emb) (m : Tm) (tmps : Array Value) : Prop where
 size : m.n = tmps.size
 get : ∀ i, VRel Γ (match m.t.get i with | some v => v | none => .tuple ⟨[]⟩) (tmps.getD i undef)
theorem TmRel.mono {Γ Γ' : Emb} (h : Γ.le Γ') {m : Tm} {tmps : Array Value} (k : TmRel Γ m tmps) : TmRel Γ' m tmps :=
 ⟨k.size, fun i => (k.get i).mono h⟩
end Go.Am
