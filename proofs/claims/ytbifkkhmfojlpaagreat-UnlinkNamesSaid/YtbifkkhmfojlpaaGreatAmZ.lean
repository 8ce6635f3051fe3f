/-
  The abstract machine, the evaluator once more, in a form that the kernel reduces in fewer steps; it is the same function.
-/
import Derived.Test.YtbifkkhmfojlpaaGreatAmX7
set_option linter.unusedVariables false
noncomputable section
namespace Go.Am
open Go.RowKit

def bitsZ (f n : Nat) : List Bool :=
  Nat.rec (motive := fun _ => Nat → List Bool) (fun _ => []) (fun _ ih n => Bool.rec (motive := fun _ => List Bool) (Nat.beq (Nat.mod n 2) 1 :: ih (Nat.div n 2)) [] (Nat.beq n 0)) f n
theorem bitsZ_eq : ∀ (f n : Nat), bitsZ f n = bits f n
  | 0, n => rfl
  | f + 1, n => by
    show Bool.rec (motive := fun _ => List Bool) (Nat.beq (Nat.mod n 2) 1 :: bitsZ f (Nat.div n 2)) [] (Nat.beq n 0) = bits (f + 1) n
    rw [bitsZ_eq f]
    conv => rhs; rw [bits]
    cases Nat.beq n 0 <;> rfl

def nthZ {α : Type} (l : List α) : Nat → Option α :=
  List.rec (motive := fun _ => Nat → Option α) (fun _ => none) (fun a _ ih n => Nat.rec (motive := fun _ => Option α) (some a) (fun m _ => ih m) n) l
theorem nthZ_eq {α : Type} : ∀ (l : List α) (n : Nat), nthZ l n = l[n]?
  | [], n => by simp; rfl
  | a :: l, 0 => by simp; rfl
  | a :: l, n + 1 => by
    rw [List.getElem?_cons_succ, ← nthZ_eq l n]; rfl

def memZ (x : Nat) (b : List Nat) : Bool := List.rec (motive := fun _ => Bool) false (fun y _ ih => Bool.rec (motive := fun _ => Bool) ih true (Nat.beq x y)) b
theorem memZ_eq (x : Nat) : ∀ b : List Nat, memZ x b = b.any (Nat.beq x)
  | [] => rfl
  | y :: b => by
    show Bool.rec (motive := fun _ => Bool) (memZ x b) true (Nat.beq x y) = _
    rw [memZ_eq x b, List.any_cons]
    cases Nat.beq x y <;> rfl
def meetsZ (b a : List Nat) : Bool := List.rec (motive := fun _ => Bool) false (fun x _ ih => Bool.rec (motive := fun _ => Bool) ih true (memZ x b)) a
theorem meetsZ_eq (b : List Nat) : ∀ a : List Nat, meetsZ b a = meets a b
  | [] => rfl
  | x :: a => by
    show Bool.rec (motive := fun _ => Bool) (meetsZ b a) true (memZ x b) = _
    rw [meetsZ_eq b a, memZ_eq]
    unfold meets
    rw [List.any_cons]
    cases b.any (Nat.beq x) <;> rfl
def meetsRZ (lo hi : Nat) (a : List Nat) : Bool := List.rec (motive := fun _ => Bool) false (fun x _ ih => Bool.rec (motive := fun _ => Bool) ih (Bool.rec (motive := fun _ => Bool) ih true (Nat.blt x hi)) (Nat.ble lo x)) a
theorem meetsRZ_eq (lo hi : Nat) : ∀ a : List Nat, meetsRZ lo hi a = meetsRange a lo hi
  | [] => rfl
  | x :: a => by
    show Bool.rec (motive := fun _ => Bool) (meetsRZ lo hi a) (Bool.rec (motive := fun _ => Bool) (meetsRZ lo hi a) true (Nat.blt x hi)) (Nat.ble lo x) = _
    rw [meetsRZ_eq lo hi a]
    unfold meetsRange
    rw [List.any_cons]
    cases Nat.ble lo x <;> cases Nat.blt x hi <;> rfl
def clashZ (f g : Foot) : Bool :=
  Foot.rec (motive := fun _ => Bool) (fun lo hi rd wr => Foot.rec (motive := fun _ => Bool) (fun _ _ rd' wr' =>
    Bool.rec (motive := fun _ => Bool) (Bool.rec (motive := fun _ => Bool) (Bool.rec (motive := fun _ => Bool) (Bool.rec (motive := fun _ => Bool) (meetsRZ lo hi wr') true (meetsRZ lo hi rd')) true (meetsZ wr' rd)) true (meetsZ rd' wr)) true (meetsZ wr' wr)) g) f
theorem clashZ_eq (f g : Foot) : clashZ f g = clash f g := by
  cases f; cases g
  simp only [clashZ, clash, meetsZ_eq, meetsRZ_eq]
  rename_i lo hi rd wr _ _ rd' wr'
  cases meets wr wr' <;> cases meets wr rd' <;> cases meets rd wr' <;> cases meetsRange rd' lo hi <;> cases meetsRange wr' lo hi <;> rfl
def footsZ (fs : List Foot) (l : List (Nat × Nat)) : Bool :=
  List.rec (motive := fun _ => Bool) true (fun p _ ih => Prod.rec (motive := fun _ => Bool) (fun i j => Option.rec (motive := fun _ => Bool) false (fun f => Option.rec (motive := fun _ => Bool) false (fun g => Bool.rec (motive := fun _ => Bool) ih false (clashZ f g)) (nthZ fs j)) (nthZ fs i)) p) l
theorem footsZ_eq (fs : List Foot) : ∀ l : List (Nat × Nat), footsZ fs l = footsOk fs l
  | [] => rfl
  | p :: l => by
    obtain ⟨i, j⟩ := p
    show Option.rec (motive := fun _ => Bool) false (fun f => Option.rec (motive := fun _ => Bool) false (fun g => Bool.rec (motive := fun _ => Bool) (footsZ fs l) false (clashZ f g)) (nthZ fs j)) (nthZ fs i) = _
    rw [footsZ_eq fs l]
    unfold footsOk
    rw [List.all_cons]
    simp only [nthZ_eq, clashZ_eq]
    cases fs[i]? with
    | none => rfl
    | some f =>
      cases fs[j]? with
      | none => rfl
      | some g =>
        simp only
        cases clash f g <;> rfl
def mergeZ (lim : Nat) (h : PT ABlk) (n : Nat) (fs : List Foot) : List Nat → List Nat → HS :=
  List.rec (motive := fun _ => List Nat → List Nat → HS) (fun rd wr => ⟨h, n, rd, wr⟩) (fun f _ ih rd wr => ih (below lim f.rd rd) (below lim f.wr wr)) fs
theorem mergeZ_eq (lim : Nat) (h : PT ABlk) (n : Nat) : ∀ (fs : List Foot) (rd wr : List Nat), mergeZ lim h n fs rd wr = mergeFoots lim fs ⟨h, n, rd, wr⟩
  | [], rd, wr => rfl
  | f :: fs, rd, wr => mergeZ_eq lim h n fs _ _

def lenZ {α : Type} (l : List α) : Nat := List.rec (motive := fun _ => Nat) 0 (fun _ _ ih => Nat.succ ih) l
theorem lenZ_eq {α : Type} : ∀ l : List α, lenZ l = l.length
  | [] => rfl
  | _ :: l => congrArg Nat.succ (lenZ_eq l)

def appZ {α : Type} (a b : List α) : List α := List.rec (motive := fun _ => List α) b (fun x _ ih => x :: ih) a
theorem appZ_eq {α : Type} (b : List α) : ∀ a : List α, appZ a b = a ++ b
  | [] => rfl
  | x :: a => congrArg (x :: ·) (appZ_eq b a)
def getDZ (l : List Nat) (n : Nat) : Nat := Option.rec (motive := fun _ => Nat) 0 (fun x => x) (nthZ l n)
theorem getDZ_eq (l : List Nat) (n : Nat) : getDZ l n = l.getD n 0 := by
  unfold getDZ List.getD
  rw [nthZ_eq]; cases l[n]? <;> rfl
def maskZ (acc : List Nat) (l : List Edge) : Nat :=
  List.rec (motive := fun _ => Nat) 0 (fun e _ ih => Bool.rec (motive := fun _ => Nat) ih (Nat.lor (Nat.lor (Nat.pow 2 e.on) (getDZ acc e.on)) ih) (Region.binds .any e)) l
theorem maskZ_eq (acc : List Nat) : ∀ l : List Edge, maskZ acc l = maskOf acc l
  | [] => rfl
  | e :: l => by
    show Bool.rec (motive := fun _ => Nat) (maskZ acc l) (Nat.lor (Nat.lor (Nat.pow 2 e.on) (getDZ acc e.on)) (maskZ acc l)) (Region.binds .any e) = _
    rw [maskZ_eq acc l, getDZ_eq]
    conv => rhs; rw [maskOf]
    cases Region.binds .any e <;> rfl
def ancZ (l : List Oper) : List Nat → List Nat := List.rec (motive := fun _ => List Nat → List Nat) (fun acc => acc) (fun o _ ih acc => ih (appZ acc [maskZ acc o.after.toList])) l
theorem ancZ_eq : ∀ (l : List Oper) (acc : List Nat), ancZ l acc = ancestors acc l
  | [], acc => rfl
  | o :: l, acc => by
    show ancZ l (appZ acc [maskZ acc o.after.toList]) = _
    rw [ancZ_eq l, appZ_eq, maskZ_eq]; rfl
def bitZ (m i : Nat) : Bool := Bool.rec (motive := fun _ => Bool) true false (Nat.beq (Nat.land 1 (Nat.shiftRight m i)) 0)
theorem bitZ_eq (m i : Nat) : bitZ m i = m.testBit i := by
  unfold bitZ Nat.testBit
  show _ = !(Nat.land 1 (Nat.shiftRight m i) == 0)
  cases h : Nat.beq (Nat.land 1 (Nat.shiftRight m i)) 0 with
  | true => have := Nat.eq_of_beq_eq_true h; rw [this]; rfl
  | false =>
    have : (Nat.land 1 (Nat.shiftRight m i) == 0) = false := by
      rw [Bool.eq_false_iff]; intro e
      have e := eq_of_beq e
      rw [e] at h; simp at h
    rw [this]; rfl
def rowZ (m j k : Nat) : Nat → List (Nat × Nat) :=
  Nat.rec (motive := fun _ => Nat → List (Nat × Nat)) (fun _ => []) (fun _ ih i => Bool.rec (motive := fun _ => List (Nat × Nat)) ((i, j) :: ih (Nat.succ i)) (ih (Nat.succ i)) (bitZ m i)) k
theorem rowZ_eq (m j : Nat) : ∀ (k i : Nat), rowZ m j k i = ((List.range' i k).filter fun i => !m.testBit i).map fun i => (i, j)
  | 0, i => rfl
  | k + 1, i => by
    show Bool.rec (motive := fun _ => List (Nat × Nat)) ((i, j) :: rowZ m j k (Nat.succ i)) (rowZ m j k (Nat.succ i)) (bitZ m i) = _
    rw [rowZ_eq m j k, bitZ_eq, List.range'_succ, List.filter_cons]
    cases m.testBit i <;> rfl
def looseZ (anc : List Nat) (k : Nat) : Nat → List (Nat × Nat) :=
  Nat.rec (motive := fun _ => Nat → List (Nat × Nat)) (fun _ => []) (fun _ ih j => appZ (rowZ (getDZ anc j) j j 0) (ih (Nat.succ j))) k
theorem looseZ_step (anc : List Nat) : ∀ (k j : Nat), loosePairs anc j ++ looseZ anc k j = loosePairs anc (j + k)
  | 0, j => by show loosePairs anc j ++ [] = _; rw [List.append_nil]; rfl
  | k + 1, j => by
    show loosePairs anc j ++ appZ (rowZ (getDZ anc j) j j 0) (looseZ anc k (Nat.succ j)) = _
    rw [appZ_eq, rowZ_eq, ← List.append_assoc, getDZ_eq]
    have h := looseZ_step anc k (j + 1)
    rw [show j + 1 + k = j + (k + 1) by omega] at h
    rw [← h]
    congr 1
    conv => rhs; rw [loosePairs]
    rw [List.range_eq_range']
theorem looseZ_eq (anc : List Nat) (n : Nat) : looseZ anc n 0 = loosePairs anc n := by
  have := looseZ_step anc n 0
  rw [Nat.zero_add] at this
  exact this
def looksZ (ops : List Oper) (o : Oper) : Option Nat × List Nat := (o.dst, o.looksAt ⟨ops⟩)
def apartZ (a b : Option Nat × List Nat) : Bool :=
  Prod.rec (motive := fun _ => Bool) (fun d l => Prod.rec (motive := fun _ => Bool) (fun d' l' =>
    Bool.rec (motive := fun _ => Bool) false (Option.rec (motive := fun _ => Bool) true (fun x => Bool.rec (motive := fun _ => Bool) true false (memZ x l)) d')
      (Option.rec (motive := fun _ => Bool) true (fun x => Bool.rec (motive := fun _ => Bool) (Option.rec (motive := fun _ => Bool) true (fun y => Bool.rec (motive := fun _ => Bool) true false (Nat.beq y x)) d') false (memZ x l')) d)) b) a
theorem beqN (x y : Nat) : (x == y) = Nat.beq x y := by
  cases h : Nat.beq x y with
  | true => have := Nat.eq_of_beq_eq_true h; subst this; simp
  | false =>
    rw [Bool.eq_false_iff]; intro e
    have e := eq_of_beq e
    subst e; simp at h
theorem mem_contains (x : Nat) (l : List Nat) : memZ x l = l.contains x := by
  rw [memZ_eq]
  induction l with
  | nil => rfl
  | cons y l ih =>
    rw [List.any_cons, List.contains_cons, ih, beqN]
theorem apartZ_eq (ops : List Oper) (x y : Oper) : apartZ (looksZ ops x) (looksZ ops y) = Oper.apart ⟨ops⟩ x y := by
  unfold apartZ looksZ Oper.apart
  simp only [mem_contains]
  cases x.dst with
  | none =>
    cases y.dst with
    | none => rfl
    | some b => simp only; cases (x.looksAt ⟨ops⟩).contains b <;> rfl
  | some a =>
    cases y.dst with
    | none => simp only; cases (y.looksAt ⟨ops⟩).contains a <;> rfl
    | some b =>
      simp only
      have e : (some b != some a) = !Nat.beq b a := by rw [← beqN]; rfl
      rw [e]
      cases (y.looksAt ⟨ops⟩).contains a <;> cases Nat.beq b a <;> cases (x.looksAt ⟨ops⟩).contains b <;> rfl
def mapZ {α β : Type} (f : α → β) (l : List α) : List β := List.rec (motive := fun _ => List β) [] (fun x _ ih => f x :: ih) l
theorem mapZ_eq {α β : Type} (f : α → β) : ∀ l : List α, mapZ f l = l.map f
  | [] => rfl
  | x :: l => congrArg (f x :: ·) (mapZ_eq f l)
def looseOkZ (fs : List (Option Nat × List Nat)) (d : Option Nat × List Nat) (l : List (Nat × Nat)) : Bool :=
  List.rec (motive := fun _ => Bool) true (fun p _ ih => Prod.rec (motive := fun _ => Bool) (fun i j => Bool.rec (motive := fun _ => Bool) false ih (apartZ (Option.rec (motive := fun _ => Option Nat × List Nat) d (fun x => x) (nthZ fs i)) (Option.rec (motive := fun _ => Option Nat × List Nat) d (fun x => x) (nthZ fs j)))) p) l
theorem looseOkZ_eq (ops : List Oper) : ∀ l : List (Nat × Nat), looseOkZ (mapZ (looksZ ops) ops) (looksZ ops default) l = looseOk ops l
  | [] => rfl
  | p :: l => by
    obtain ⟨i, j⟩ := p
    show Bool.rec (motive := fun _ => Bool) false (looseOkZ (mapZ (looksZ ops) ops) (looksZ ops default) l) (apartZ _ _) = _
    rw [looseOkZ_eq ops l]
    have e : ∀ i, Option.rec (motive := fun _ => Option Nat × List Nat) (looksZ ops default) (fun x => x) (nthZ (mapZ (looksZ ops) ops) i) = looksZ ops (ops.getD i default) := by
      intro i
      rw [mapZ_eq, nthZ_eq, List.getElem?_map]
      unfold List.getD
      cases ops[i]? <;> rfl
    rw [e, e, apartZ_eq]
    unfold looseOk
    rw [List.all_cons]
    cases Oper.apart ⟨ops⟩ (ops.getD i default) (ops.getD j default) <;> rfl
def edgesZ (l : List Oper) : Nat → Bool :=
  List.rec (motive := fun _ => Nat → Bool) (fun _ => true) (fun o _ ih i => Bool.rec (motive := fun _ => Bool) false (ih (Nat.succ i))
    (List.rec (motive := fun _ => Bool) true (fun e _ q => Bool.rec (motive := fun _ => Bool) q (Bool.rec (motive := fun _ => Bool) false q (Nat.blt e.on i)) (Region.binds .any e)) o.after.toList)) l
theorem edgesZ_eq : ∀ (l : List Oper) (i : Nat), edgesZ l i = edgesOk i l
  | [], i => rfl
  | o :: l, i => by
    have e : ∀ es : List Edge, List.rec (motive := fun _ => Bool) true (fun e _ q => Bool.rec (motive := fun _ => Bool) q (Bool.rec (motive := fun _ => Bool) false q (Nat.blt e.on i)) (Region.binds .any e)) es = es.all (fun e => !Region.binds .any e || Nat.blt e.on i) := by
      intro es
      induction es with
      | nil => rfl
      | cons a es ih =>
        show Bool.rec (motive := fun _ => Bool) _ (Bool.rec (motive := fun _ => Bool) false _ (Nat.blt a.on i)) (Region.binds .any a) = _
        rw [ih, List.all_cons]
        cases Region.binds .any a <;> cases Nat.blt a.on i <;> rfl
    show Bool.rec (motive := fun _ => Bool) false (edgesZ l (Nat.succ i)) (List.rec (motive := fun _ => Bool) true (fun e _ q => Bool.rec (motive := fun _ => Bool) q (Bool.rec (motive := fun _ => Bool) false q (Nat.blt e.on i)) (Region.binds .any e)) o.after.toList) = _
    rw [edgesZ_eq l, e]
    conv => rhs; rw [edgesOk]
    cases o.after.toList.all (fun e => !Region.binds .any e || Nat.blt e.on i) <;> rfl
/-- The pairs that are loose in a region; none if it is not one to draw. -/
def regZ (ops : List Oper) : Option (List (Nat × Nat)) :=
  let l := looseZ (ancZ ops []) (lenZ ops) 0
  Bool.rec (motive := fun _ => Option (List (Nat × Nat))) none (Bool.rec (motive := fun _ => Option (List (Nat × Nat))) none (some l) (edgesZ ops 0)) (looseOkZ (mapZ (looksZ ops) ops) (looksZ ops default) l)
theorem regZ_eq (ops : List Oper) : regZ ops = cond (drawOk ops (loosePairs (ancestors [] ops) ops.length)) (some (loosePairs (ancestors [] ops) ops.length)) none := by
  unfold regZ drawOk
  simp only [looseOkZ_eq, edgesZ_eq, looseZ_eq, ancZ_eq, lenZ_eq]
  cases looseOk ops (loosePairs (ancestors [] ops) ops.length) <;> cases edgesOk 0 ops <;> rfl

def PT.getZ {α : Type} (k : List Bool) (t : PT α) : Option α :=
  PT.rec (motive := fun _ => List Bool → Option α) (fun _ => none) (fun _ v _ il ir k => List.rec (motive := fun _ => Option α) v (fun b k' _ => Bool.rec (motive := fun _ => Option α) (il k') (ir k') b) k) t k

theorem PT.getZ_eq {α : Type} : ∀ (t : PT α) (k : List Bool), PT.getZ k t = PT.getL k t
  | .leaf, [] => rfl
  | .leaf, _ :: _ => rfl
  | .node _ _ _, [] => rfl
  | .node l _ r, true :: k => PT.getZ_eq r k
  | .node l _ r, false :: k => PT.getZ_eq l k

def PT.setZ {α : Type} (k : List Bool) (v : Option α) : PT α → PT α :=
  List.rec (motive := fun _ => PT α → PT α) (fun t => PT.rec (motive := fun _ => PT α) (.node .leaf v .leaf) (fun l _ r _ _ => .node l v r) t)
    (fun b _ ih t => PT.rec (motive := fun _ => PT α) (Bool.rec (motive := fun _ => PT α) (.node (ih .leaf) none .leaf) (.node .leaf none (ih .leaf)) b) (fun l u r _ _ => Bool.rec (motive := fun _ => PT α) (.node (ih l) u r) (.node l u (ih r)) b) t) k

theorem PT.setZ_eq {α : Type} (v : Option α) : ∀ (k : List Bool) (t : PT α), PT.setZ k v t = PT.setL k v t
  | [], .leaf => rfl
  | [], .node _ _ _ => rfl
  | true :: k, .leaf => congrArg (PT.node .leaf none) (PT.setZ_eq v k .leaf)
  | false :: k, .leaf => congrArg (fun x => PT.node x none .leaf) (PT.setZ_eq v k .leaf)
  | true :: k, .node l u r => congrArg (PT.node l u) (PT.setZ_eq v k r)
  | false :: k, .node l u r => congrArg (fun x => PT.node x u r) (PT.setZ_eq v k l)

def Tm.getZ (m : Tm) (i : Nat) : Value := Option.rec (motive := fun _ => Value) undefV (fun v => v) (PT.getZ (bitsZ i i) m.t)
theorem Tm.getZ_eq (m : Tm) (i : Nat) : m.getZ i = m.get i := by
  unfold Tm.getZ Tm.get
  rw [PT.getZ_eq, bitsZ_eq]
  show _ = match PT.getL (bits i i) m.t with | some v => v | none => undefV
  cases PT.getL (bits i i) m.t <;> rfl

def ofListZ {α : Type} (l : List α) : PT α → Nat → PT α := List.rec (motive := fun _ => PT α → Nat → PT α) (fun t _ => t) (fun v _ ih t off => ih (PT.setZ (bitsZ off off) (some v) t) (Nat.succ off)) l
theorem ofListZ_eq {α : Type} : ∀ (l : List α) (t : PT α) (off : Nat), ofListZ l t off = PT.ofList t off l
  | [], t, off => rfl
  | v :: l, t, off => by
    show ofListZ l (PT.setZ (bitsZ off off) (some v) t) (Nat.succ off) = _
    rw [ofListZ_eq l, PT.setZ_eq, bitsZ_eq]; rfl

def readZ (c : PT Value) (n : Nat) : Nat → Option (List Value) :=
  Nat.rec (motive := fun _ => Nat → Option (List Value)) (fun _ => some []) (fun _ ih off => Option.rec (motive := fun _ => Option (List Value)) none (fun v => Option.rec (motive := fun _ => Option (List Value)) none (fun l => some (v :: l)) (ih (Nat.succ off))) (PT.getZ (bitsZ off off) c)) n
theorem readZ_eq (c : PT Value) : ∀ (n off : Nat), readZ c n off = readCells c off n
  | 0, off => rfl
  | n + 1, off => by
    show Option.rec (motive := fun _ => Option (List Value)) none (fun v => Option.rec (motive := fun _ => Option (List Value)) none (fun l => some (v :: l)) (readZ c n (Nat.succ off))) (PT.getZ (bitsZ off off) c) = _
    rw [readZ_eq c n, PT.getZ_eq, bitsZ_eq]
    conv => rhs; rw [readCells]
    unfold PT.get
    cases PT.getL (bits off off) c with
    | none => rfl
    | some v => simp only; cases readCells c (Nat.succ off) n <;> rfl

def aLoadZ (P : Program) (t : TypeId) (x : Value) : AP Value :=
  match x with
  | .pointer (some a) => Option.rec (motive := fun _ => AP Value) (.fail "load") (fun i => Option.rec (motive := fun _ => AP Value) (.fail "load") (fun d => .get a.block fun B => ABlk.rec (motive := fun _ => AP Value)
      (fun c _ => Bool.rec (motive := fun _ => AP Value) (Option.rec (motive := fun _ => AP Value) (.fail "load") .pure (PT.getZ (bitsZ a.off a.off) c)) (Option.rec (motive := fun _ => AP Value) (.fail "load") (fun l => .pure (.agg ⟨l⟩)) (readZ c i.size a.off)) (isAgg d))
      (fun _ _ => .fail "load") (fun _ _ _ _ => .fail "load") (fun _ _ _ _ _ _ => .fail "load") (.fail "load") B) (P.underlying t)) (P.info? t)
  | _ => .fail "load"
theorem aLoadZ_eq (P : Program) (t : TypeId) (x : Value) : aLoadZ P t x = aLoad P t x := by
  unfold aLoadZ aLoad
  cases x with
  | pointer a =>
    cases a with
    | none => rfl
    | some a =>
      simp only
      cases P.info? t with
      | none => rfl
      | some i =>
        cases P.underlying t with
        | none => rfl
        | some d =>
          simp only
          congr 1
          funext B
          cases B with
          | cells c ro =>
            simp only [PT.getZ_eq, bitsZ_eq, readZ_eq, PT.get]
            cases isAgg d with
            | false => simp only [cond_false]; cases PT.getL (bits a.off a.off) c <;> rfl
            | true => simp only [cond_true]; cases readCells c a.off i.size <;> rfl
          | _ => rfl
  | _ => rfl

def writeZ (l : List Value) : PT Value → Nat → Option (PT Value) :=
  List.rec (motive := fun _ => PT Value → Nat → Option (PT Value)) (fun c _ => some c) (fun v _ ih c off => Option.rec (motive := fun _ => Option (PT Value)) none (fun _ => Bool.rec (motive := fun _ => Option (PT Value)) none (ih (PT.setZ (bitsZ off off) (some v) c) (Nat.succ off)) (oneCell v)) (PT.getZ (bitsZ off off) c)) l
theorem writeZ_eq : ∀ (l : List Value) (c : PT Value) (off : Nat), writeZ l c off = writeCells c off l
  | [], c, off => rfl
  | v :: l, c, off => by
    show Option.rec (motive := fun _ => Option (PT Value)) none (fun _ => Bool.rec (motive := fun _ => Option (PT Value)) none (writeZ l (PT.setZ (bitsZ off off) (some v) c) (Nat.succ off)) (oneCell v)) (PT.getZ (bitsZ off off) c) = _
    rw [writeZ_eq l, PT.getZ_eq, PT.setZ_eq, bitsZ_eq]
    conv => rhs; rw [writeCells]
    unfold PT.get PT.set
    cases PT.getL (bits off off) c with
    | none => rfl
    | some _ => simp only; cases oneCell v <;> rfl

def aStoreZ (P : Program) (t : TypeId) (x v : Value) : AP Unit :=
  match x with
  | .pointer (some a) => Option.rec (motive := fun _ => AP Unit) (.fail "store") (fun i => Bool.rec (motive := fun _ => AP Unit) (.fail "store") (.get a.block fun B => ABlk.rec (motive := fun _ => AP Unit)
      (fun c ro => Bool.rec (motive := fun _ => AP Unit) (Option.rec (motive := fun _ => AP Unit) (.fail "store") (fun c' => .set a.block (.cells c' false) (.pure ())) (writeZ v.cells.toList c a.off)) (.fail "store") ro)
      (fun _ _ => .fail "store") (fun _ _ _ _ => .fail "store") (fun _ _ _ _ _ _ => .fail "store") (.fail "store") B) (Nat.beq (lenZ v.cells.toList) i.size)) (P.info? t)
  | _ => .fail "store"
theorem aStoreZ_eq (P : Program) (t : TypeId) (x v : Value) : aStoreZ P t x v = aStore P t x v := by
  unfold aStoreZ aStore
  cases x with
  | pointer a =>
    cases a with
    | none => rfl
    | some a =>
      simp only
      cases P.info? t with
      | none => rfl
      | some i =>
        simp only [lenZ_eq]
        cases Nat.beq v.cells.toList.length i.size with
        | false => rfl
        | true =>
          simp only [cond_true]
          congr 1
          funext B
          cases B with
          | cells c ro =>
            cases ro with
            | true => rfl
            | false => simp only [writeZ_eq]; cases writeCells c a.off v.cells.toList <;> rfl
          | _ => rfl
  | _ => rfl

def newRowZ (l : List Value) : AP Value := .new (.cells (ofListZ l .leaf 0) false) fun id => .pure (.pointer (some ⟨id, 0, none⟩))
theorem newRowZ_eq (l : List Value) : newRowZ l = newRow l := by unfold newRowZ newRow; rw [ofListZ_eq]
def aAllocZ (P : Program) (t : TypeId) : AP Value := Option.rec (motive := fun _ => AP Value) (.fail "alloc") (fun z => newRowZ z.cells.toList) (zeroOf P t)
theorem aAllocZ_eq (P : Program) (t : TypeId) : aAllocZ P t = aAlloc P t := by
  unfold aAllocZ aAlloc; cases zeroOf P t <;> first | rfl | exact newRowZ_eq _

def yieldZ (ops : List Oper) (m : Tm) (j : Nat) (want : Bool) : Bool :=
  Option.rec (motive := fun _ => Bool) false (fun o => Option.rec (motive := fun _ => Bool) false (fun d => match m.getZ d with | .bool b => b == want | _ => false) o.dst) (nthZ ops j)
theorem yieldZ_eq (ops : List Oper) (m : Tm) (j : Nat) (want : Bool) (o : Oper) (h : o.guard = some (j, want)) : yieldZ ops m j want = wantedA ops m o := by
  unfold yieldZ wantedA yieldedA
  rw [h, nthZ_eq]
  simp only
  cases ops[j]? with
  | none => rfl
  | some q =>
    simp only
    cases q.dst with
    | none => rfl
    | some d =>
      simp only [Tm.getZ_eq]
      cases m.get d <;> rfl

def Tm.evalZ (m : Tm) (x : Operand) : Value :=
  Operand.rec (motive := fun _ => Tm → Value) (fun i m => m.getZ i) (fun v _ => v) (fun g _ => .pointer (some ⟨g, 0, none⟩)) (fun f _ => .func (.func f) ⟨[]⟩ ⟨[]⟩) x m
theorem Tm.evalZ_eq (m : Tm) : m.evalZ = m.eval := by
  funext x; cases x <;> first | rfl | exact Tm.getZ_eq m _

def bndZ {α β : Type} (r : Res α) (k : α → HS → Res β) : Res β := Res.rec (motive := fun _ => Res β) .fail k r
theorem bndZ_eq {α β : Type} (r : Res α) (k : α → HS → Res β) : bndZ r k = bnd r k := by cases r <;> rfl

def rdZ (lim id : Nat) (s : HS) : HS := Bool.rec (motive := fun _ => HS) s (HS.rec (motive := fun _ => HS) (fun h n rd wr => ⟨h, n, ins id rd, wr⟩) s) (Nat.blt id lim)
def setZ (lim id : Nat) (b : Option ABlk) (s : HS) : HS := HS.rec (motive := fun _ => HS) (fun h n rd wr => ⟨PT.setZ (bitsZ id id) b h, n, rd, Bool.rec (motive := fun _ => List Nat) wr (ins id wr) (Nat.blt id lim)⟩) s
def newZ (b : ABlk) (s : HS) : HS := HS.rec (motive := fun _ => HS) (fun h n rd wr => ⟨PT.setZ (bitsZ n n) (some b) h, Nat.succ n, rd, wr⟩) s

def AP.runZ {α : Type} (lim : Nat) (p : AP α) : HS → Res α :=
  AP.rec (motive := fun _ => HS → Res α)
    (fun a s => .ok a s)
    (fun w _ => .fail w)
    (fun id _ ih s => Option.rec (motive := fun _ => Res α) (.fail "get") (fun b => ih b (rdZ lim id s)) (PT.getZ (bitsZ id id) s.heap))
    (fun id b _ ih s => Option.rec (motive := fun _ => Res α) (.fail "set") (fun _ => ih (setZ lim id (some b) s)) (PT.getZ (bitsZ id id) s.heap))
    (fun id _ ih s => Option.rec (motive := fun _ => Res α) (.fail "kill") (fun _ => ih (setZ lim id none s)) (PT.getZ (bitsZ id id) s.heap))
    (fun b _ ih s => ih s.next (newZ b s)) p

theorem rdZ_eq (lim id : Nat) (s : HS) : rdZ lim id s = cond (Nat.blt id lim) { s with rd := ins id s.rd } s := by
  unfold rdZ; cases Nat.blt id lim <;> rfl
theorem setZ_eq (lim id : Nat) (b : Option ABlk) (s : HS) : setZ lim id b s = cond (Nat.blt id lim) { s with heap := s.heap.set id b, wr := ins id s.wr } { s with heap := s.heap.set id b } := by
  unfold setZ PT.set; cases s; simp only [PT.setZ_eq, bitsZ_eq]; cases Nat.blt id lim <;> rfl
theorem newZ_eq (b : ABlk) (s : HS) : newZ b s = { s with heap := s.heap.set s.next (some b), next := Nat.succ s.next } := by
  unfold newZ PT.set; cases s; simp only [PT.setZ_eq, bitsZ_eq]

theorem AP.runZ_eq {α : Type} (lim : Nat) : ∀ (p : AP α) (s : HS), p.runZ lim s = p.run lim s
  | .pure a, s => rfl
  | .fail w, s => rfl
  | .get id k, s => by
    show Option.rec (motive := fun _ => Res α) (.fail "get") (fun b => (k b).runZ lim (rdZ lim id s)) (PT.getZ (bitsZ id id) s.heap) = _
    simp only [AP.run, PT.get, PT.getZ_eq, bitsZ_eq, rdZ_eq]
    cases PT.getL (bits id id) s.heap with
    | none => rfl
    | some b => exact AP.runZ_eq lim (k b) _
  | .set id b k, s => by
    show Option.rec (motive := fun _ => Res α) (.fail "set") (fun _ => k.runZ lim (setZ lim id (some b) s)) (PT.getZ (bitsZ id id) s.heap) = _
    simp only [AP.run, PT.get, PT.getZ_eq, bitsZ_eq, setZ_eq]
    cases PT.getL (bits id id) s.heap with
    | none => rfl
    | some _ => exact AP.runZ_eq lim k _
  | .kill id k, s => by
    show Option.rec (motive := fun _ => Res α) (.fail "kill") (fun _ => k.runZ lim (setZ lim id none s)) (PT.getZ (bitsZ id id) s.heap) = _
    simp only [AP.run, PT.get, PT.getZ_eq, bitsZ_eq, setZ_eq]
    cases PT.getL (bits id id) s.heap with
    | none => rfl
    | some _ => exact AP.runZ_eq lim k _
  | .new b k, s => by
    show (k s.next).runZ lim (newZ b s) = _
    simp only [AP.run, newZ_eq]
    exact AP.runZ_eq lim (k s.next) _

def AP.bindZ {α β : Type} (p : AP α) (f : α → AP β) : AP β :=
  AP.rec (motive := fun _ => AP β) f .fail (fun id _ ih => .get id ih) (fun id b _ ih => .set id b ih) (fun id _ ih => .kill id ih) (fun b _ ih => .new b ih) p
theorem AP.bindZ_eq {α β : Type} (f : α → AP β) : ∀ (p : AP α), p.bindZ f = p.bind f
  | .pure a => rfl
  | .fail w => rfl
  | .get id k => congrArg (AP.get id) (funext fun b => AP.bindZ_eq f (k b))
  | .set id b k => congrArg (AP.set id b) (AP.bindZ_eq f k)
  | .kill id k => congrArg (AP.kill id) (AP.bindZ_eq f k)
  | .new b k => congrArg (AP.new b) (funext fun i => AP.bindZ_eq f (k i))

def vZ (s : AP Value) : AP ANext := s.bindZ fun x => .pure (.value x)
def uZ (s : AP Unit) : AP ANext := s.bindZ fun _ => .pure .skip
theorem vZ_eq (s : AP Value) : vZ s = s.bind fun x => .pure (.value x) := AP.bindZ_eq _ s
theorem uZ_eq (s : AP Unit) : uZ s = s.bind fun _ => .pure .skip := AP.bindZ_eq _ s

def aOpZ (P : Program) (ρ : Operand → Value) (o : Op) : AP ANext :=
  Op.rec (motive := fun _ => Program → (Operand → Value) → AP ANext)
    (fun x P ρ => .pure (.value (ρ x)))
    (fun x P ρ => .pure (.value (ρ x)))
    (fun c a b P ρ => match ρ c with | .bool t => .pure (.value (cond t (ρ a) (ρ b))) | _ => .fail "pick")
    (fun e P ρ => vZ (aAllocZ P e))
    (fun _ x P ρ => vZ (newRowZ (ρ x).cells.toList))
    (fun t ps P ρ => vZ (aBuild P t (ps.toList.map fun p => (p.1, ρ p.2))))
    (fun t n ps P ρ => vZ (aBuildSlice P t n (ps.toList.map fun p => (p.1, ρ p.2))))
    (fun t m k x P ρ => uZ (aMapUpdate P t (ρ m) (ρ k) (ρ x)))
    (fun t a P ρ => vZ (aLoadZ P t (ρ a)))
    (fun t a x P ρ => uZ (aStoreZ P t (ρ a) (ρ x)))
    (fun _ P ρ => .fail "operation")
    (fun _ P ρ => .fail "operation")
    (fun x P ρ => vZ (aNilCheck (ρ x)))
    (fun op t x y _ P ρ => vZ (aBinOp P op t (isConst x) (isConst y) (ρ x) (ρ y)))
    (fun op _ x P ρ => vZ (.opt "unOp" (aUnary op (ρ x)) .pure))
    (fun s d x P ρ => vZ (aConvert P s d (ρ x)))
    (fun _ _ P ρ => .fail "operation")
    (fun t x P ρ => vZ (aMakeInterface P t (ρ x)))
    (fun fn first captured P ρ => cond (fnPlain fn) (.pure (.value (.func fn ⟨first.toList.map ρ⟩ ⟨captured.toList.map ρ⟩))) (.fail "makeFunc"))
    (fun t r P ρ => vZ (aMakeMap P t (r.map ρ)))
    (fun _ _ P ρ => .fail "operation")
    (fun t l c P ρ => vZ (aMakeSlice P t (ρ l) (ρ c)))
    (fun t x lo hi mx P ρ => vZ (aSlice P t (ρ x) (lo.map ρ) (hi.map ρ) (mx.map ρ)))
    (fun s x f P ρ => vZ (aFieldAddr P s (ρ x) f))
    (fun t x f P ρ => vZ (aField P t (ρ x) f))
    (fun t x i P ρ => vZ (aIndexAddr P t (ρ x) (ρ i)))
    (fun t x i P ρ => vZ (aIndex P t (ρ x) (ρ i)))
    (fun t x i ok P ρ => vZ (aLookup P t (ρ x) (ρ i) ok))
    (fun t m k x P ρ => uZ (aMapUpdate P t (ρ m) (ρ k) (ρ x)))
    (fun _ _ _ P ρ => .fail "operation")
    (fun _ _ _ _ P ρ => .fail "operation")
    (fun t x P ρ => vZ (aRange P t (ρ x)))
    (fun x b P ρ => vZ (aNext (ρ x) b))
    (fun x P ρ => vZ (aEntry (ρ x)))
    (fun x _ t ok P ρ => vZ (aTypeAssert P (ρ x) t ok))
    (fun x i P ρ => vZ (aExtract (ρ x) i))
    (fun c P ρ => aCall P ρ c)
    (fun _ P ρ => .fail "operation")
    (fun _ P ρ => .fail "operation")
    (fun _ P ρ => .fail "operation")
    (fun _ _ P ρ => .fail "operation")
    (fun _ _ _ P ρ => .fail "operation")
    (fun _ _ P ρ => .fail "operation")
    o P ρ

theorem aOpZ_eq (P : Program) (ρ : Operand → Value) (o : Oper) : aOpZ P ρ o.op = aOp P ρ o := by
  unfold aOp
  cases h : o.op <;> first | rfl | exact vZ_eq _ | exact uZ_eq _ | (simp only [aOpZ, vZ_eq, uZ_eq, aLoadZ_eq, aStoreZ_eq, aAllocZ_eq, newRowZ_eq]; done)

section
variable (P : Program) (O : Over) (ev : EvT)

def resultsZ (lim : Nat) (m : Tm) (rs : List ResultVar) : HS → Res (List Value) :=
  List.rec (motive := fun _ => HS → Res (List Value)) (fun s => .ok [] s)
    (fun r _ ih s => ResultVar.rec (motive := fun _ => Res (List Value)) (fun t => bndZ (ih s) fun l s => .ok (m.getZ t :: l) s) (fun a t => bndZ ((aLoadZ P t (m.getZ a)).runZ lim s) fun v s => bndZ (ih s) fun l s => .ok (v :: l) s) r) rs
theorem resultsZ_eq (lim : Nat) (m : Tm) : ∀ (rs : List ResultVar) (s : HS), resultsZ P lim m rs s = resultsA P lim m rs s
  | [], s => rfl
  | .tmp t :: rs, s => by
    show bndZ (resultsZ P lim m rs s) (fun l s => .ok (m.getZ t :: l) s) = bnd (resultsA P lim m rs s) fun l s => .ok (m.get t :: l) s
    rw [bndZ_eq, resultsZ_eq lim m rs, Tm.getZ_eq]
  | .cell a t :: rs, s => by
    show bndZ ((aLoadZ P t (m.getZ a)).runZ lim s) (fun v s => bndZ (resultsZ P lim m rs s) fun l s => .ok (v :: l) s) = bnd ((aLoad P t (m.get a)).run lim s) fun v s => bnd (resultsA P lim m rs s) fun l s => .ok (v :: l) s
    rw [bndZ_eq, AP.runZ_eq, aLoadZ_eq, Tm.getZ_eq]
    congr 1
    funext v s
    rw [bndZ_eq, resultsZ_eq lim m rs]

def afterZ (lim : Nat) (rs : List ResultVar) (x : AExit × Tm) (s : HS) : Res Value :=
  Prod.rec (motive := fun _ => Res Value) (fun e m => AExit.rec (motive := fun _ => Res Value) (bndZ (takeDfs lim m.dfs s) fun _ s => bndZ (resultsZ P lim m rs s) fun l s => .ok (oneOf l) s) (fun _ => .fail "exit out of a body") (bndZ (takeDfs lim m.dfs s) fun _ s => bndZ (resultsZ P lim m rs s) fun l s => .ok (oneOf l) s) e) x
theorem afterZ_eq (lim : Nat) (rs : List ResultVar) (x : AExit × Tm) (s : HS) : afterZ P lim rs x s = afterA P lim rs x s := by
  obtain ⟨e, m⟩ := x
  cases e <;> simp only [afterZ, afterA, bndZ_eq, resultsZ_eq]

def bodyZ (lim : Nat) (f : FuncId) (args : List Value) (s : HS) : Res Value :=
  Option.rec (motive := fun _ => Res Value) (.fail "no function") (fun fn => Option.rec (motive := fun _ => Res Value) (.fail "no body") (fun c => bndZ (ev none lim c ⟨args.length + (fn.ntmps - args.length), ofListZ args .leaf 0, []⟩ s) fun x s => afterZ P lim fn.results.toList x s) fn.body) (P.funcs[f]?)
theorem bodyZ_eq (lim : Nat) (f : FuncId) (args : List Value) (s : HS) : bodyZ P ev lim f args s = bodyA P ev lim f args s := by
  unfold bodyZ bodyA
  cases P.funcs[f]? with
  | none => rfl
  | some fn =>
    simp only
    cases fn.body with
    | none => rfl
    | some c => simp only [bndZ_eq, afterZ_eq, ofListZ_eq]

def callZ (lim : Nat) (f : FuncId) (args : List Value) (s : HS) : Res Value :=
  Option.rec (motive := fun _ => Res Value) (bodyZ P ev lim f args s) (fun m => m.runZ lim s) (O f args)
theorem callZ_eq (lim : Nat) (f : FuncId) (args : List Value) (s : HS) : callZ P O ev lim f args s = callA P O ev lim f args s := by
  unfold callZ callA
  cases O f args with
  | none => exact bodyZ_eq P ev lim f args s
  | some m => exact AP.runZ_eq lim m s

def nextZ (lim : Nat) (x : ANext) (s : HS) : Res Value :=
  ANext.rec (motive := fun _ => Res Value) (fun v => .ok v s) (.ok undefV s) (fun f args => callZ P O ev lim f args s) (fun l m as_ bd => roundA ev lim l m as_ bd s) x
theorem nextZ_eq (lim : Nat) (x : ANext) (s : HS) : nextZ P O ev lim x s = nextA P O ev lim x s := by
  cases x <;> first | rfl | exact callZ_eq P O ev lim _ _ s

def valZ (lim : Nat) (m : Tm) (op : Op) (s : HS) : Res Value :=
  Bool.rec (motive := fun _ => Res Value) (.fail "an address among the constants") (bndZ ((aOpZ P m.evalZ op).runZ lim s) (nextZ P O ev lim)) (op.operands.toList.all opFlat)
theorem valZ_eq (lim : Nat) (m : Tm) (o : Oper) (s : HS) : valZ P O ev lim m o.op s = valA P O ev lim m.eval o s := by
  unfold valZ valA
  cases o.op.operands.toList.all opFlat with
  | false => rfl
  | true =>
    simp only [cond_true, bndZ_eq, AP.runZ_eq, Tm.evalZ_eq, aOpZ_eq]
    congr 1
    funext x s
    exact nextZ_eq P O ev lim x s

def putZ (d : Option Nat) (v : Value) (m : Tm) (s : HS) : Res Tm :=
  Option.rec (motive := fun _ => Res Tm) (.ok m s) (fun i => Tm.rec (motive := fun _ => Res Tm) (fun n t dfs => Bool.rec (motive := fun _ => Res Tm) (.fail "slot") (.ok ⟨n, PT.setZ (bitsZ i i) (some v) t, dfs⟩ s) (Nat.blt i n)) m) d
theorem putZ_eq (d : Option Nat) (v : Value) (m : Tm) (s : HS) : putZ d v m s = putA m d v s := by
  unfold putZ putA Tm.put PT.set
  cases d with
  | none => rfl
  | some i =>
    cases m with
    | mk n t dfs =>
      simp only [PT.setZ_eq, bitsZ_eq]
      cases Nat.blt i n <;> rfl

def opZ (lim : Nat) (ops : List Oper) (o : Oper) (m : Tm) (s : HS) : Res Tm :=
  Oper.rec (motive := fun _ => Res Tm) (fun dst op _ _ _ guard =>
    bndZ (Option.rec (motive := fun _ => Res Value) (valZ P O ev lim m op s) (fun g => Prod.rec (motive := fun _ => Res Value) (fun j want => Bool.rec (motive := fun _ => Res Value) (.ok undefV s) (valZ P O ev lim m op s) (yieldZ ops m j want)) g) guard) fun v s => putZ dst v m s) o
theorem opZ_eq (lim : Nat) (ops : List Oper) (o : Oper) (m : Tm) (s : HS) : opZ P O ev lim ops o m s = opA P O ev lim ops o m s := by
  unfold opZ opA
  obtain ⟨dst, op, ty, pos, after, guard⟩ := o
  simp only [bndZ_eq, putZ_eq]
  congr 1
  have e := valZ_eq P O ev lim m ⟨dst, op, ty, pos, after, guard⟩ s
  simp only at e
  cases guard with
  | none => exact e
  | some g =>
    obtain ⟨j, want⟩ := g
    simp only [yieldZ_eq ops m j want ⟨dst, op, ty, pos, after, some (j, want)⟩ rfl, e]
    cases wantedA ops m ⟨dst, op, ty, pos, after, some (j, want)⟩ <;> rfl

def opsZ (lim : Nat) (ops : List Oper) (l : List Oper) : Tm → HS → Res Tm :=
  List.rec (motive := fun _ => Tm → HS → Res Tm) (fun m s => .ok m s) (fun o _ ih m s => bndZ (opZ P O ev lim ops o m s) ih) l
theorem opsZ_eq (lim : Nat) (ops : List Oper) : ∀ (l : List Oper) (m : Tm) (s : HS), opsZ P O ev lim ops l m s = opsA P O ev lim ops l m s
  | [], m, s => rfl
  | o :: l, m, s => by
    show bndZ (opZ P O ev lim ops o m s) (opsZ P O ev lim ops l) = bnd (opA P O ev lim ops o m s) fun m s => opsA P O ev lim ops l m s
    rw [bndZ_eq, opZ_eq]
    congr 1
    funext m s
    exact opsZ_eq lim ops l m s

def opsFZ (ops : List Oper) (l : List Oper) : Tm → PT ABlk → Nat → Res (Tm × List Foot) :=
  List.rec (motive := fun _ => Tm → PT ABlk → Nat → Res (Tm × List Foot)) (fun m h n => .ok (m, []) ⟨h, n, [], []⟩)
    (fun o _ ih m h n => bndZ (opZ P O ev n ops o m ⟨h, n, [], []⟩) fun m s => HS.rec (motive := fun _ => Res (Tm × List Foot)) (fun h' n' rd wr => bndZ (ih m h' n') fun x s' => Prod.rec (motive := fun _ => Res (Tm × List Foot)) (fun y fs => .ok (y, ⟨n, n', rd, wr⟩ :: fs) s') x) s) l
theorem opsFZ_eq (ops : List Oper) : ∀ (l : List Oper) (m : Tm) (h : PT ABlk) (n : Nat), opsFZ P O ev ops l m h n = opsF P O ev ops l m h n
  | [], m, h, n => rfl
  | o :: l, m, h, n => by
    show bndZ (opZ P O ev n ops o m ⟨h, n, [], []⟩) (fun m s => HS.rec (motive := fun _ => Res (Tm × List Foot)) (fun h' n' rd wr => bndZ (opsFZ P O ev ops l m h' n') fun x s' => Prod.rec (motive := fun _ => Res (Tm × List Foot)) (fun y fs => .ok (y, ⟨n, n', rd, wr⟩ :: fs) s') x) s) = bnd (opA P O ev n ops o m ⟨h, n, [], []⟩) fun m s => bnd (opsF P O ev ops l m s.heap s.next) fun x s' => .ok (x.1, ⟨n, s.next, s.rd, s.wr⟩ :: x.2) s'
    rw [bndZ_eq, opZ_eq]
    congr 1
    funext m s
    cases s
    simp only [bndZ_eq, opsFZ_eq ops l]

def drawZ (lim : Nat) (ops : List Oper) (m : Tm) (s : HS) : Res Tm :=
  Option.rec (motive := fun _ => Res Tm) (.fail "operations whose order is open share a slot")
    (fun L => HS.rec (motive := fun _ => Res Tm) (fun h n rd wr => bndZ (opsFZ P O ev ops ops m h n) fun x s' => Prod.rec (motive := fun _ => Res Tm) (fun y fs =>
      Bool.rec (motive := fun _ => Res Tm) (.fail "operations whose order is open touch one block")
        (HS.rec (motive := fun _ => Res Tm) (fun h' n' _ _ => .ok y (Bool.rec (motive := fun _ => HS) (mergeZ lim h' n' fs rd wr) ⟨h', n', rd, wr⟩ (Nat.beq lim 0))) s')
        (footsZ fs L)) x) s)
    (regZ ops)
theorem drawZ_eq (lim : Nat) (ops : List Oper) (m : Tm) (s : HS) : drawZ P O ev lim ops m s = drawA P O ev lim ops m s := by
  unfold drawZ drawA
  rw [regZ_eq]
  cases drawOk ops (loosePairs (ancestors [] ops) ops.length) with
  | false => rfl
  | true =>
    obtain ⟨h, n, rd, wr⟩ := s
    simp only [cond_true, bndZ_eq, opsFZ_eq]
    congr 1
    funext x s'
    obtain ⟨y, fs⟩ := x
    simp only [footsZ_eq]
    cases footsOk fs (loosePairs (ancestors [] ops) ops.length) with
    | false => rfl
    | true =>
      cases s'
      simp only [cond_true, mergeZ_eq]
      cases Nat.beq lim 0 <;> rfl

def stepZ : EvT := fun ro lim c m s =>
  Code.rec (motive := fun _ => Program → Over → EvT → Option Nat → Nat → Tm → HS → Res (AExit × Tm))
    (fun _ _ _ _ _ m s => .ok (.normal, m) s)
    (fun _ ops draw P O ev ro lim m s => bndZ (Bool.rec (motive := fun _ => Res Tm) (opsZ P O ev lim ops.toList ops.toList m s) (drawZ P O ev lim ops.toList m s) draw) fun m s => .ok (.normal, m) s)
    (fun a b _ _ P O ev ro lim m s => bndZ (ev ro lim a m s) fun x s => Prod.rec (motive := fun _ => Res (AExit × Tm)) (fun e m => AExit.rec (motive := fun _ => Res (AExit × Tm)) (ev ro lim b m s) (fun i => .ok (.exit i, m) s) (.ok (.ret, m) s) e) x)
    (fun c a b _ _ P O ev ro lim m s => cond (opFlat c) (match m.evalZ c with
      | .bool t => Bool.rec (motive := fun _ => Res (AExit × Tm)) (ev ro lim b m s) (ev ro lim a m s) t
      | _ => .fail "cond") (.fail "cond"))
    (fun id c _ P O ev ro lim m s => bndZ (ev ro lim c m s) fun x s => Prod.rec (motive := fun _ => Res (AExit × Tm)) (fun e m => AExit.rec (motive := fun _ => Res (AExit × Tm)) (.ok (.normal, m) s) (fun i => .ok (cond (Nat.beq i id) .normal (.exit i), m) s) (.ok (.ret, m) s) e) x)
    (fun c _ P O ev ro lim m s => bndZ (ev ro lim c m s) fun x s => Prod.rec (motive := fun _ => Res (AExit × Tm)) (fun e m => AExit.rec (motive := fun _ => Res (AExit × Tm)) (ev ro lim (.loop c) m s) (fun i => .ok (.exit i, m) s) (.ok (.ret, m) s) e) x)
    (fun g ps assign body _ _ P O ev ro lim m s => rangeA P O ev ro lim g ps.toList assign body m s)
    (fun id _ _ _ _ _ m s => .ok (.exit id, m) s)
    (fun c _ P O ev ro lim m s => ev ro lim c m s)
    (fun _ _ _ _ _ _ m s => .ok (.normal, m) s)
    (fun _ _ _ _ _ _ m s => .fail "code")
    (fun _ _ _ _ _ m s => .ok (.ret, m) s)
    (fun _ _ _ _ _ _ m s => .fail "code") c P O ev ro lim m s

theorem stepZ_eq : stepZ P O ev = stepC P O ev := by
  funext ro lim c m s
  cases c with
  | region i ops draw =>
    simp only [stepZ, stepC, bndZ_eq, opsZ_eq, drawZ_eq]
    congr 1
    cases draw <;> rfl
  | seq a b =>
    simp only [stepZ, stepC, bndZ_eq]
    congr 1; funext x s; obtain ⟨e, m⟩ := x; cases e <;> rfl
  | block i c =>
    simp only [stepZ, stepC, bndZ_eq]
    congr 1; funext x s; obtain ⟨e, m⟩ := x; cases e <;> rfl
  | loop c =>
    simp only [stepZ, stepC, bndZ_eq]
    congr 1; funext x s; obtain ⟨e, m⟩ := x; cases e <;> rfl
  | cond c a b =>
    simp only [stepZ, stepC, Tm.evalZ_eq]
    cases opFlat c with
    | false => rfl
    | true =>
      simp only [cond_true]
      cases m.eval c with
      | bool t => cases t <;> rfl
      | _ => rfl
  | _ => rfl

def evZ (n : Nat) : EvT := Nat.rec (motive := fun _ => EvT) (fun _ _ _ _ _ => .fail "fuel") (fun _ ev => stepZ P O ev) n
theorem evZ_eq : ∀ n, evZ P O n = evC P O n
  | 0 => rfl
  | n + 1 => by
    show stepZ P O (evZ P O n) = stepC P O (evC P O n)
    rw [evZ_eq n, stepZ_eq]

def lawZ (fuel : Nat) (f : FuncId) : Bool := isTrue (callZ P O (evZ P O fuel) 0 f [] startHS)
theorem lawZ_eq (fuel : Nat) (f : FuncId) : lawZ P O fuel f = lawTrue P O fuel f := by
  unfold lawZ lawTrue
  rw [callZ_eq, evZ_eq]
end

/-- A closed function that gives true. -/
def trueZ : List Value → Option (AP Value)
  | [] => some (.pure (.bool true))
  | _ => none

theorem closedZ {P : Program} {O : Over} (hO : SoundO P O) (hmix : P.follows .mixedOrders = true) {fuel : Nat} {f : FuncId} (hl : lawZ P O fuel f = true) : SoundF P f trueZ := by
  intro args m hm Γ W w h n lim rd wr args' v s' ha hS hr hfree
  unfold trueZ at hm
  split at hm
  · simp only [Option.some.injEq] at hm
    subst hm
    cases ha
    simp only [AP.run, Res.ok.injEq] at hr
    obtain ⟨rfl, rfl⟩ := hr
    rw [lawZ_eq] at hl
    unfold lawTrue at hl
    cases hc : callA P O (evC P O fuel) 0 f [] startHS with
    | fail q => rw [hc] at hl; simp [isTrue] at hl
    | ok v s' =>
      rw [hc] at hl
      have hv : v = .bool true := by
        unfold isTrue at hl
        split at hl
        · rename_i he; simp only [Res.ok.injEq] at he; exact he.1
        · simp at hl
      subst hv
      have hS0 : SRel ⟨fun _ => none, fun _ => none⟩ w .leaf w :=
        ⟨.refl _ _, fun _ _ => rfl, fun i B hB => by simp at hB, fun i j B B' b s b' s' _ hB => by simp at hB, fun i b s hb => by simp at hb, fun b n hb => by simp at hb, ⟨0, fun _ _ => rfl⟩, fun i c ro e => by simp at e⟩
      have := call_sound hO (ev_sound hO hmix fuel).1 (loc_ev fuel) hc (Nat.le_refl _) (fun id _ => by simp [startHS]) hS0 (fun id b hb => hb) .nil (fun _ _ _ => rfl) none
      refine CallsIn.mono (show CallsIn Fence.wide 0 P f ⟨[]⟩ w _ from this) ?_
      rintro en w' ⟨Γ2, v', H', rfl, hex, hvr⟩
      cases hvr
      have hb := hex.rel.below
      have hsame : ∀ i, i < w.heap.size → w'.heap[i]? = w.heap[i]? := hb.block
      refine ⟨Γ, .bool true, rfl, .refl _, ⟨?_, fun a ha => (hex.rel.fz a (Nat.lt_of_lt_of_le ha hS.below.size)).trans (hS.fz a ha), ?_, hS.disj, ?_, ?_, hS.fin, hS.rows⟩, fun _ _ => rfl, .bool _⟩
      · exact ⟨hb.os.trans hS.below.os, hb.tape.trans hS.below.tape, hb.output.trans hS.below.output, Nat.le_trans hS.below.size hb.size, fun i hi => (hsame i (Nat.lt_of_lt_of_le hi hS.below.size)).trans (hS.below.block i hi)⟩
      · intro i B hi
        obtain ⟨b, s, e, r, hw⟩ := hS.live i B hi
        exact ⟨b, s, e, r.world (hsame b (hS.dom i b s e)), hw⟩
      · intro i b s e
        exact Nat.lt_of_lt_of_le (hS.dom i b s e) hb.size
      · intro b n e
        obtain ⟨c, el, fz, h1, h2⟩ := hS.siz b n e
        exact ⟨c, el, fz, (hsame b (lt_of_heap h1)).trans h1, h2⟩
  · simp at hm


/-- A law without arguments. -/
theorem law_z {P : Program} {l : Tab} (ht : TabOk P l) (hmix : P.follows .mixedOrders = true) {fuel : Nat} {f : FuncId} (h : lawZ P (tabO l) fuel f = true) (w : World) :
    Calls P f #[] w fun e w' => e = .returned (.bool true) ∧ GrownA w w' :=
  law_over (tab_sound ht) hmix (by rw [← lawZ_eq]; exact h) w

end Go.Am
