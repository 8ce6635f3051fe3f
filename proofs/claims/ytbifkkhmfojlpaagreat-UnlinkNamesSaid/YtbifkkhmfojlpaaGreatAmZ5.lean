/-
  The abstract machine, the evaluator once more: each piece of code, each operation and each slot is turned once into a function that the kernel keeps; it is the same evaluator.
-/
import Derived.Test.YtbifkkhmfojlpaaGreatAmZ
set_option linter.unusedVariables false
set_option linter.unusedSimpArgs false
noncomputable section
namespace Go.Am
open Go.RowKit

structure GetB (α : Type) where
  fn : PT α → Option α
def getB {α : Type} (k : List Bool) : GetB α :=
  List.rec (motive := fun _ => GetB α) ⟨fun t => PT.rec (motive := fun _ => Option α) none (fun _ v _ _ _ => v) t⟩
    (fun b _ ih => Bool.rec (motive := fun _ => GetB α) ⟨fun t => PT.rec (motive := fun _ => Option α) none (fun l _ _ _ _ => ih.fn l) t⟩ ⟨fun t => PT.rec (motive := fun _ => Option α) none (fun _ _ r _ _ => ih.fn r) t⟩ b) k
theorem getB_eq {α : Type} : ∀ (k : List Bool) (t : PT α), (getB k).fn t = PT.getL k t
  | [], .leaf => rfl
  | [], .node _ _ _ => rfl
  | true :: k, .leaf => rfl
  | false :: k, .leaf => rfl
  | true :: k, .node _ _ r => getB_eq k r
  | false :: k, .node l _ _ => getB_eq k l

structure SetB (α : Type) where
  fn : Option α → PT α → PT α
def setB {α : Type} (k : List Bool) : SetB α :=
  List.rec (motive := fun _ => SetB α) ⟨fun v t => PT.rec (motive := fun _ => PT α) (.node .leaf v .leaf) (fun l _ r _ _ => .node l v r) t⟩
    (fun b _ ih => Bool.rec (motive := fun _ => SetB α) ⟨fun v t => PT.rec (motive := fun _ => PT α) (.node (ih.fn v .leaf) none .leaf) (fun l u r _ _ => .node (ih.fn v l) u r) t⟩
      ⟨fun v t => PT.rec (motive := fun _ => PT α) (.node .leaf none (ih.fn v .leaf)) (fun l u r _ _ => .node l u (ih.fn v r)) t⟩ b) k
theorem setB_eq {α : Type} (v : Option α) : ∀ (k : List Bool) (t : PT α), (setB k).fn v t = PT.setL k v t
  | [], .leaf => rfl
  | [], .node _ _ _ => rfl
  | true :: k, .leaf => congrArg (PT.node .leaf none) (setB_eq v k .leaf)
  | false :: k, .leaf => congrArg (fun x => PT.node x none .leaf) (setB_eq v k .leaf)
  | true :: k, .node l u r => congrArg (PT.node l u) (setB_eq v k r)
  | false :: k, .node l u r => congrArg (fun x => PT.node x u r) (setB_eq v k l)

/-- The number in one form, before it is handed on. -/
def forceN {β : Type} (n : Nat) (f : Nat → β) : β := Nat.rec (motive := fun _ => β) (f 0) (fun n _ => f (Nat.succ n)) n
theorem forceN_eq {β : Type} (n : Nat) (f : Nat → β) : forceN n f = f n := by cases n <;> rfl

def getV (i : Nat) (t : PT Value) : Option Value := forceN i fun i => (getB (bitsZ i i)).fn t
def setV (i : Nat) (v : Option Value) (t : PT Value) : PT Value := forceN i fun i => (setB (bitsZ i i)).fn v t
def getH (i : Nat) (t : PT ABlk) : Option ABlk := forceN i fun i => (getB (bitsZ i i)).fn t
def setH (i : Nat) (v : Option ABlk) (t : PT ABlk) : PT ABlk := forceN i fun i => (setB (bitsZ i i)).fn v t
theorem getV_eq (i : Nat) (t : PT Value) : getV i t = t.get i := by unfold getV PT.get; rw [forceN_eq, getB_eq, bitsZ_eq]
theorem setV_eq (i : Nat) (v : Option Value) (t : PT Value) : setV i v t = t.set i v := by unfold setV PT.set; rw [forceN_eq, setB_eq, bitsZ_eq]
theorem getH_eq (i : Nat) (t : PT ABlk) : getH i t = t.get i := by unfold getH PT.get; rw [forceN_eq, getB_eq, bitsZ_eq]
theorem setH_eq (i : Nat) (v : Option ABlk) (t : PT ABlk) : setH i v t = t.set i v := by unfold setH PT.set; rw [forceN_eq, setB_eq, bitsZ_eq]

structure TmB (α : Type) where
  fn : Tm → α
def slotB (i : Nat) : TmB Value := ⟨fun m => Tm.rec (motive := fun _ => Value) (fun _ t _ => Option.rec (motive := fun _ => Value) undefV (fun v => v) ((getB (bitsZ i i)).fn t)) m⟩
theorem slotB_eq (i : Nat) (m : Tm) : (slotB i).fn m = m.get i := by
  obtain ⟨n, t, d⟩ := m
  show Option.rec (motive := fun _ => Value) undefV (fun v => v) ((getB (bitsZ i i)).fn t) = _
  rw [getB_eq, bitsZ_eq]
  show _ = match PT.getL (bits i i) t with | some v => v | none => undefV
  cases PT.getL (bits i i) t <;> rfl
def evB (x : Operand) : TmB Value := Operand.rec (motive := fun _ => TmB Value) (fun i => slotB i) (fun v => ⟨fun _ => v⟩) (fun g => ⟨fun _ => .pointer (some ⟨g, 0, none⟩)⟩) (fun f => ⟨fun _ => .func (.func f) ⟨[]⟩ ⟨[]⟩⟩) x
theorem evB_eq (x : Operand) (m : Tm) : (evB x).fn m = m.eval x := by
  cases x <;> first | rfl | exact slotB_eq _ m
def evF (m : Tm) (x : Operand) : Value := (evB x).fn m
theorem evF_eq (m : Tm) : evF m = m.eval := funext fun x => evB_eq x m

/-! ### The heap -/

def rdB (lim id : Nat) (s : HS) : HS := Bool.rec (motive := fun _ => HS) s (HS.rec (motive := fun _ => HS) (fun h n rd wr => ⟨h, n, ins id rd, wr⟩) s) (Nat.blt id lim)
def wrB (lim id : Nat) (b : Option ABlk) (s : HS) : HS := HS.rec (motive := fun _ => HS) (fun h n rd wr => ⟨setH id b h, n, rd, Bool.rec (motive := fun _ => List Nat) wr (ins id wr) (Nat.blt id lim)⟩) s
theorem rdB_eq (lim id : Nat) (s : HS) : rdB lim id s = rdZ lim id s := rfl
theorem wrB_eq (lim id : Nat) (b : Option ABlk) (s : HS) : wrB lim id b s = setZ lim id b s := by
  cases s; simp only [wrB, setZ, setH_eq, PT.setZ_eq, bitsZ_eq]; rfl

def runV (p : AP Value) (lim : Nat) (s : HS) : Res Value :=
  AP.rec (motive := fun _ => Nat → HS → Res Value)
    (fun a _ s => .ok a s)
    (fun w _ _ => .fail w)
    (fun id _ ih lim s => HS.rec (motive := fun _ => Res Value) (fun h n rd wr => Option.rec (motive := fun _ => Res Value) (.fail "get") (fun b => ih b lim (rdB lim id ⟨h, n, rd, wr⟩)) (getH id h)) s)
    (fun id b _ ih lim s => HS.rec (motive := fun _ => Res Value) (fun h n rd wr => Option.rec (motive := fun _ => Res Value) (.fail "set") (fun _ => ih lim (wrB lim id (some b) ⟨h, n, rd, wr⟩)) (getH id h)) s)
    (fun id _ ih lim s => HS.rec (motive := fun _ => Res Value) (fun h n rd wr => Option.rec (motive := fun _ => Res Value) (.fail "kill") (fun _ => ih lim (wrB lim id none ⟨h, n, rd, wr⟩)) (getH id h)) s)
    (fun b _ ih lim s => HS.rec (motive := fun _ => Res Value) (fun h n rd wr => forceN n fun n => ih n lim ⟨setH n (some b) h, Nat.succ n, rd, wr⟩) s) p lim s
def runN (p : AP ANext) (lim : Nat) (s : HS) : Res ANext :=
  AP.rec (motive := fun _ => Nat → HS → Res ANext)
    (fun a _ s => .ok a s)
    (fun w _ _ => .fail w)
    (fun id _ ih lim s => HS.rec (motive := fun _ => Res ANext) (fun h n rd wr => Option.rec (motive := fun _ => Res ANext) (.fail "get") (fun b => ih b lim (rdB lim id ⟨h, n, rd, wr⟩)) (getH id h)) s)
    (fun id b _ ih lim s => HS.rec (motive := fun _ => Res ANext) (fun h n rd wr => Option.rec (motive := fun _ => Res ANext) (.fail "set") (fun _ => ih lim (wrB lim id (some b) ⟨h, n, rd, wr⟩)) (getH id h)) s)
    (fun id _ ih lim s => HS.rec (motive := fun _ => Res ANext) (fun h n rd wr => Option.rec (motive := fun _ => Res ANext) (.fail "kill") (fun _ => ih lim (wrB lim id none ⟨h, n, rd, wr⟩)) (getH id h)) s)
    (fun b _ ih lim s => HS.rec (motive := fun _ => Res ANext) (fun h n rd wr => forceN n fun n => ih n lim ⟨setH n (some b) h, Nat.succ n, rd, wr⟩) s) p lim s
theorem runV_eq : ∀ (p : AP Value) (lim : Nat) (s : HS), runV p lim s = p.run lim s
  | .pure a, lim, s => rfl
  | .fail w, lim, s => rfl
  | .get id k, lim, ⟨h, n, rd, wr⟩ => by
    show Option.rec (motive := fun _ => Res Value) (.fail "get") (fun b => runV (k b) lim (rdB lim id ⟨h, n, rd, wr⟩)) (getH id h) = _
    simp only [AP.run, getH_eq, rdB_eq, rdZ_eq]
    cases h.get id with
    | none => rfl
    | some b => exact runV_eq (k b) lim _
  | .set id b k, lim, ⟨h, n, rd, wr⟩ => by
    show Option.rec (motive := fun _ => Res Value) (.fail "set") (fun _ => runV k lim (wrB lim id (some b) ⟨h, n, rd, wr⟩)) (getH id h) = _
    simp only [AP.run, getH_eq, wrB_eq, setZ_eq]
    cases h.get id with
    | none => rfl
    | some _ => exact runV_eq k lim _
  | .kill id k, lim, ⟨h, n, rd, wr⟩ => by
    show Option.rec (motive := fun _ => Res Value) (.fail "kill") (fun _ => runV k lim (wrB lim id none ⟨h, n, rd, wr⟩)) (getH id h) = _
    simp only [AP.run, getH_eq, wrB_eq, setZ_eq]
    cases h.get id with
    | none => rfl
    | some _ => exact runV_eq k lim _
  | .new b k, lim, ⟨h, n, rd, wr⟩ => by
    show forceN n (fun n => runV (k n) lim ⟨setH n (some b) h, Nat.succ n, rd, wr⟩) = _
    rw [forceN_eq, setH_eq]
    exact runV_eq (k n) lim _
theorem runN_eq : ∀ (p : AP ANext) (lim : Nat) (s : HS), runN p lim s = p.run lim s
  | .pure a, lim, s => rfl
  | .fail w, lim, s => rfl
  | .get id k, lim, ⟨h, n, rd, wr⟩ => by
    show Option.rec (motive := fun _ => Res ANext) (.fail "get") (fun b => runN (k b) lim (rdB lim id ⟨h, n, rd, wr⟩)) (getH id h) = _
    simp only [AP.run, getH_eq, rdB_eq, rdZ_eq]
    cases h.get id with
    | none => rfl
    | some b => exact runN_eq (k b) lim _
  | .set id b k, lim, ⟨h, n, rd, wr⟩ => by
    show Option.rec (motive := fun _ => Res ANext) (.fail "set") (fun _ => runN k lim (wrB lim id (some b) ⟨h, n, rd, wr⟩)) (getH id h) = _
    simp only [AP.run, getH_eq, wrB_eq, setZ_eq]
    cases h.get id with
    | none => rfl
    | some _ => exact runN_eq k lim _
  | .kill id k, lim, ⟨h, n, rd, wr⟩ => by
    show Option.rec (motive := fun _ => Res ANext) (.fail "kill") (fun _ => runN k lim (wrB lim id none ⟨h, n, rd, wr⟩)) (getH id h) = _
    simp only [AP.run, getH_eq, wrB_eq, setZ_eq]
    cases h.get id with
    | none => rfl
    | some _ => exact runN_eq k lim _
  | .new b k, lim, ⟨h, n, rd, wr⟩ => by
    show forceN n (fun n => runN (k n) lim ⟨setH n (some b) h, Nat.succ n, rd, wr⟩) = _
    rw [forceN_eq, setH_eq]
    exact runN_eq (k n) lim _

def runU (p : AP Unit) (lim : Nat) (s : HS) : Res Value := runV (p.bindZ fun _ => .pure undefV) lim s
theorem run_bindP {α β : Type} (f : α → AP β) (lim : Nat) : ∀ (p : AP α) (s : HS), (p.bind f).run lim s = bnd (p.run lim s) fun a s => (f a).run lim s
  | .pure a, s => rfl
  | .fail w, s => rfl
  | .get id k, s => by
    simp only [AP.bind, AP.run]
    cases s.heap.get id with
    | none => rfl
    | some b => exact run_bindP f lim (k b) _
  | .set id b k, s => by
    simp only [AP.bind, AP.run]
    cases s.heap.get id with
    | none => rfl
    | some _ => exact run_bindP f lim k _
  | .kill id k, s => by
    simp only [AP.bind, AP.run]
    cases s.heap.get id with
    | none => rfl
    | some _ => exact run_bindP f lim k _
  | .new b k, s => run_bindP f lim (k s.next) _
theorem bnd_pure {α : Type} (r : Res α) : bnd r (fun a s => .ok a s) = r := by cases r <;> rfl

section
variable (P : Program) (O : Over) (ev : EvT)
theorem val_bind (lim : Nat) (p : AP Value) (s : HS) : bnd ((p.bind fun x => .pure (.value x)).run lim s) (fun x s => nextA P O ev lim x s) = runV p lim s := by
  rw [run_bindP, bnd_assoc, runV_eq]
  exact bnd_pure _
theorem unit_bind (lim : Nat) (p : AP Unit) (s : HS) : bnd ((p.bind fun _ => .pure .skip).run lim s) (fun x s => nextA P O ev lim x s) = runU p lim s := by
  unfold runU
  rw [run_bindP, bnd_assoc, runV_eq, AP.bindZ_eq, run_bindP]
  rfl
end

/-! ### The operations that are met most -/

def intCase {β : Type} (v : Value) (f : IntKind → Int → β) (d : β) : β := match v with
  | .int k n => f k n
  | _ => d
def ptrCase {β : Type} (v : Value) (f : Addr → β) (d : β) : β := match v with
  | .pointer (some a) => f a
  | _ => d

structure LdB where
  fn : Value → Nat → HS → Res Value
def cellsCase (B : ABlk) (f : PT Value → Bool → Res Value) (d : Res Value) : Res Value :=
  ABlk.rec (motive := fun _ => Res Value) f (fun _ _ => d) (fun _ _ _ _ => d) (fun _ _ _ _ _ _ => d) d B
def readB (c : PT Value) (n : Nat) : Nat → Option (List Value) :=
  Nat.rec (motive := fun _ => Nat → Option (List Value)) (fun _ => some []) (fun _ ih off => forceN off fun off => Option.rec (motive := fun _ => Option (List Value)) none (fun v => Option.rec (motive := fun _ => Option (List Value)) none (fun l => some (v :: l)) (ih (Nat.succ off))) ((getB (bitsZ off off)).fn c)) n
theorem readB_eq (c : PT Value) : ∀ (n off : Nat), readB c n off = readCells c off n
  | 0, off => rfl
  | n + 1, off => by
    show forceN off (fun off => Option.rec (motive := fun _ => Option (List Value)) none (fun v => Option.rec (motive := fun _ => Option (List Value)) none (fun l => some (v :: l)) (readB c n (Nat.succ off))) ((getB (bitsZ off off)).fn c)) = _
    rw [forceN_eq, readB_eq c n, getB_eq, bitsZ_eq]
    conv => rhs; rw [readCells]
    unfold PT.get
    cases PT.getL (bits off off) c with
    | none => rfl
    | some v => simp only; cases readCells c (Nat.succ off) n <;> rfl
def ldB (P : Program) (t : TypeId) : LdB :=
  Option.rec (motive := fun _ => LdB) ⟨fun _ _ _ => .fail "load"⟩ (fun i => Option.rec (motive := fun _ => LdB) ⟨fun _ _ _ => .fail "load"⟩ (fun d =>
    Bool.rec (motive := fun _ => LdB)
      ⟨fun x lim s => ptrCase x (fun a => HS.rec (motive := fun _ => Res Value) (fun h n rd wr => Option.rec (motive := fun _ => Res Value) (.fail "get") (fun B => cellsCase B (fun c _ => Option.rec (motive := fun _ => Res Value) (.fail "load") (fun v => .ok v (rdB lim a.block ⟨h, n, rd, wr⟩)) (getV a.off c)) (.fail "load")) (getH a.block h)) s) (.fail "load")⟩
      ⟨fun x lim s => ptrCase x (fun a => HS.rec (motive := fun _ => Res Value) (fun h n rd wr => Option.rec (motive := fun _ => Res Value) (.fail "get") (fun B => cellsCase B (fun c _ => Option.rec (motive := fun _ => Res Value) (.fail "load") (fun l => .ok (.agg ⟨l⟩) (rdB lim a.block ⟨h, n, rd, wr⟩)) (readB c i.size a.off)) (.fail "load")) (getH a.block h)) s) (.fail "load")⟩
      (isAgg d)) (P.underlying t)) (P.info? t)
theorem ldB_eq (P : Program) (t : TypeId) (x : Value) (lim : Nat) (s : HS) : (ldB P t).fn x lim s = (aLoad P t x).run lim s := by
  unfold ldB aLoad
  cases P.info? t with
  | none => cases x <;> first | rfl | (rename_i a; cases a <;> rfl)
  | some i =>
    cases P.underlying t with
    | none => cases x <;> first | rfl | (rename_i a; cases a <;> rfl)
    | some d =>
      obtain ⟨h, n, rd, wr⟩ := s
      cases hd : isAgg d with
      | false =>
        cases x with
        | pointer a =>
          cases a with
          | none => simp only [hd]; rfl
          | some a =>
            simp only [ptrCase, AP.run, getH_eq, hd]
            cases h.get a.block with
            | none => rfl
            | some B =>
              cases B with
              | cells c ro =>
                simp only [cellsCase, getV_eq, cond_false, rdB_eq, rdZ_eq]
                cases c.get a.off <;> rfl
              | _ => rfl
        | _ => simp only [hd]; rfl
      | true =>
        cases x with
        | pointer a =>
          cases a with
          | none => simp only [hd]; rfl
          | some a =>
            simp only [ptrCase, AP.run, getH_eq, hd]
            cases h.get a.block with
            | none => rfl
            | some B =>
              cases B with
              | cells c ro =>
                simp only [cellsCase, readB_eq, cond_true, rdB_eq, rdZ_eq]
                cases readCells c a.off i.size <;> rfl
              | _ => rfl
        | _ => simp only [hd]; rfl

/-- A field's place. -/
def offB (P : Program) (s : TypeId) (f : Nat) : Option Nat :=
  match P.underlying s with
  | some (.struct fs) => match fs.toList[f]? with
    | some fd => match P.info? fd.type with
      | some i => cond (Nat.beq i.size 0) none (some fd.offset)
      | none => none
    | none => none
  | _ => none
def faB (P : Program) (t : TypeId) (f : Nat) : LdB :=
  Option.rec (motive := fun _ => LdB) ⟨fun _ _ _ => .fail "fieldAddr"⟩ (fun off => ⟨fun x _ s => ptrCase x (fun a => Addr.rec (motive := fun _ => Res Value) (fun b o _ => .ok (.pointer (some ⟨b, Nat.add o off, none⟩)) s) a) (.fail "fieldAddr")⟩) (offB P t f)
theorem faB_eq (P : Program) (t : TypeId) (f : Nat) (x : Value) (lim : Nat) (s : HS) : (faB P t f).fn x lim s = (aFieldAddr P t x f).run lim s := by
  unfold faB offB aFieldAddr
  cases hu : P.underlying t with
  | none => cases x <;> first | rfl | (rename_i a; cases a <;> rfl)
  | some d =>
    cases d with
    | struct fs =>
      simp only
      cases hf : fs.toList[f]? with
      | none => cases x <;> first | rfl | (rename_i a; cases a <;> first | rfl | simp only [hf]; rfl)
      | some fd =>
        simp only
        cases hi : P.info? fd.type with
        | none => cases x <;> first | rfl | (rename_i a; cases a <;> first | rfl | simp only [hf, hi]; rfl)
        | some i =>
          simp only
          cases hz : Nat.beq i.size 0 with
          | true => cases x <;> first | rfl | (rename_i a; cases a <;> first | rfl | simp only [hf, hi, hz]; rfl)
          | false => cases x <;> first | rfl | (rename_i a; cases a <;> first | rfl | (simp only [hf, hi, hz]; rfl))
    | _ => cases x <;> first | rfl | (rename_i a; cases a <;> rfl)


def kn (k : IntKind) : Nat := IntKind.rec (motive := fun _ => Nat) 0 1 2 3 4 5 6 7 k
def sameK (k k' : IntKind) : Bool := Nat.beq (kn k) (kn k')
theorem sameK_eq (k k' : IntKind) : sameK k k' = decide (k = k') := by cases k <;> cases k' <;> rfl
def maxB (k : IntKind) : Nat := IntKind.rec (motive := fun _ => Nat) 127 32767 2147483647 9223372036854775807 255 65535 4294967295 18446744073709551615 k
def wrapI (k : IntKind) (n : Int) : Int := Int.rec (motive := fun _ => Int) (fun a => Bool.rec (motive := fun _ => Int) (k.wrap (.ofNat a)) (.ofNat a) (Nat.ble a (maxB k))) (fun a => k.wrap (.negSucc a)) n
theorem wrapI_eq (k : IntKind) (n : Int) : wrapI k n = k.wrap n := by
  cases n with
  | negSucc a => rfl
  | ofNat a =>
    show Bool.rec (motive := fun _ => Int) (k.wrap (.ofNat a)) (.ofNat a) (Nat.ble a (maxB k)) = _
    cases h : Nat.ble a (maxB k) with
    | false => rfl
    | true =>
      have h := Nat.le_of_ble_eq_true h
      show Int.ofNat a = k.wrap (Int.ofNat a)
      cases k <;> simp [maxB, IntKind.wrap, IntKind.bits, IntKind.signed] at h ⊢ <;> omega
def ltI (x y : Int) : Bool := Int.rec (motive := fun _ => Bool) (fun a => Int.rec (motive := fun _ => Bool) (fun b => Nat.blt a b) (fun _ => false) y) (fun a => decide (.negSucc a < y)) x
theorem ltI_eq (x y : Int) : ltI x y = decide (x < y) := by
  cases x with
  | negSucc a => rfl
  | ofNat a =>
    cases y with
    | negSucc b => show false = _; symm; simp only [decide_eq_false_iff_not, Int.ofNat_eq_natCast]; omega
    | ofNat b =>
      show Nat.blt a b = _
      rw [nat_blt_eq]
      simp
def eqI (x y : Int) : Bool := Int.rec (motive := fun _ => Bool) (fun a => Int.rec (motive := fun _ => Bool) (fun b => Nat.beq a b) (fun _ => false) y) (fun a => .negSucc a == y) x
theorem eqI_eq (x y : Int) : eqI x y = (x == y) := by
  cases x with
  | negSucc a => rfl
  | ofNat a =>
    cases y with
    | negSucc b => rfl
    | ofNat b =>
      show Nat.beq a b = _
      rw [nat_beq_eq, Bool.eq_iff_iff]
      simp
      omega
def notB (b : Bool) : Bool := Bool.rec (motive := fun _ => Bool) true false b
theorem notB_eq (b : Bool) : notB b = !b := by cases b <;> rfl

structure BinB where
  fn : Value → Value → Nat → HS → Res Value
section
variable (P : Program)
def slowB (op : BinOp) (t : TypeId) (cx cy : Bool) (x y : Value) (lim : Nat) (s : HS) : Res Value := runV (aBinOp P op t cx cy x y) lim s
def fastB (op : BinOp) (t : TypeId) (cx cy : Bool) (f : IntKind → Int → Int → Value) : BinB :=
  ⟨fun x y lim s => intCase x (fun k a => intCase y (fun k' b => Bool.rec (motive := fun _ => Res Value) (.fail "binOp") (.ok (f k a b) s) (sameK k k')) (slowB P op t cx cy x y lim s)) (slowB P op t cx cy x y lim s)⟩
theorem fastB_eq {op : BinOp} {t : TypeId} {cx cy : Bool} {f : IntKind → Int → Int → Value} (h : ∀ k k' a b lim s, (aBinOp P op t cx cy (.int k a) (.int k' b)).run lim s = if k = k' then .ok (f k a b) s else .fail "binOp") (x y : Value) (lim : Nat) (s : HS) :
    (fastB P op t cx cy f).fn x y lim s = (aBinOp P op t cx cy x y).run lim s := by
  show intCase x (fun k a => intCase y (fun k' b => Bool.rec (motive := fun _ => Res Value) (.fail "binOp") (.ok (f k a b) s) (sameK k k')) (slowB P op t cx cy x y lim s)) (slowB P op t cx cy x y lim s) = _
  unfold slowB
  rw [runV_eq]
  cases x with
  | int k a =>
    cases y with
    | int k' b =>
      rw [h]
      simp only [intCase, sameK_eq]
      by_cases hk : k = k'
      · rw [decide_eq_true hk, if_pos hk]
      · rw [decide_eq_false hk, if_neg hk]
    | _ => rfl
  | _ => rfl
def binB (op : BinOp) (t : TypeId) (cx cy : Bool) : BinB :=
  BinOp.rec (motive := fun _ => BinB)
    (fastB P .add t cx cy fun k a b => .int k (wrapI k (a + b)))
    (fastB P .sub t cx cy fun k a b => .int k (wrapI k (a - b)))
    (fastB P .mul t cx cy fun k a b => .int k (wrapI k (a * b)))
    ⟨slowB P .quo t cx cy⟩ ⟨slowB P .rem t cx cy⟩ ⟨slowB P .and t cx cy⟩ ⟨slowB P .or t cx cy⟩ ⟨slowB P .xor t cx cy⟩ ⟨slowB P .shl t cx cy⟩ ⟨slowB P .shr t cx cy⟩ ⟨slowB P .andNot t cx cy⟩
    (fastB P .eql t cx cy fun k a b => .bool (eqI a b))
    (fastB P .neq t cx cy fun k a b => .bool (notB (eqI a b)))
    (fastB P .lss t cx cy fun k a b => .bool (ltI a b))
    (fastB P .leq t cx cy fun k a b => .bool (notB (ltI b a)))
    (fastB P .gtr t cx cy fun k a b => .bool (ltI b a))
    (fastB P .geq t cx cy fun k a b => .bool (notB (ltI a b))) op
theorem ite_run {α : Type} {c : Prop} [Decidable c] (p q : AP α) (lim : Nat) (s : HS) : (if c then p else q).run lim s = if c then p.run lim s else q.run lim s := by split <;> rfl
theorem binB_eq (op : BinOp) (t : TypeId) (cx cy : Bool) (x y : Value) (lim : Nat) (s : HS) : (binB P op t cx cy).fn x y lim s = (aBinOp P op t cx cy x y).run lim s := by
  have hle : ∀ a b : Int, notB (ltI b a) = decide (a ≤ b) := fun a b => by rw [notB_eq, ltI_eq, ← decide_not]; congr 1; simp only [eq_iff_iff]; omega
  cases op with
  | quo => exact runV_eq _ _ _
  | rem => exact runV_eq _ _ _
  | and => exact runV_eq _ _ _
  | or => exact runV_eq _ _ _
  | xor => exact runV_eq _ _ _
  | shl => exact runV_eq _ _ _
  | shr => exact runV_eq _ _ _
  | andNot => exact runV_eq _ _ _
  | add => exact fastB_eq P (fun k k' a b lim s => by simp only [wrapI_eq]; exact ite_run _ _ _ _) x y lim s
  | sub => exact fastB_eq P (fun k k' a b lim s => by simp only [wrapI_eq]; exact ite_run _ _ _ _) x y lim s
  | mul => exact fastB_eq P (fun k k' a b lim s => by simp only [wrapI_eq]; exact ite_run _ _ _ _) x y lim s
  | eql => exact fastB_eq P (fun k k' a b lim s => by simp only [eqI_eq]; exact ite_run _ _ _ _) x y lim s
  | neq => exact fastB_eq P (fun k k' a b lim s => by simp only [eqI_eq, notB_eq]; exact ite_run _ _ _ _) x y lim s
  | lss => exact fastB_eq P (fun k k' a b lim s => by simp only [ltI_eq]; exact ite_run _ _ _ _) x y lim s
  | leq => exact fastB_eq P (fun k k' a b lim s => by simp only [hle]; exact ite_run _ _ _ _) x y lim s
  | gtr => exact fastB_eq P (fun k k' a b lim s => by simp only [ltI_eq]; exact ite_run _ _ _ _) x y lim s
  | geq => exact fastB_eq P (fun k k' a b lim s => by simp only [hle]; exact ite_run _ _ _ _) x y lim s

def writeB (l : List Value) : PT Value → Nat → Option (PT Value) :=
  List.rec (motive := fun _ => PT Value → Nat → Option (PT Value)) (fun c _ => some c) (fun v _ ih c off => forceN off fun off => Option.rec (motive := fun _ => Option (PT Value)) none (fun _ => Bool.rec (motive := fun _ => Option (PT Value)) none (ih ((setB (bitsZ off off)).fn (some v) c) (Nat.succ off)) (oneCell v)) ((getB (bitsZ off off)).fn c)) l
theorem writeB_eq : ∀ (l : List Value) (c : PT Value) (off : Nat), writeB l c off = writeCells c off l
  | [], c, off => rfl
  | v :: l, c, off => by
    show forceN off (fun off => Option.rec (motive := fun _ => Option (PT Value)) none (fun _ => Bool.rec (motive := fun _ => Option (PT Value)) none (writeB l ((setB (bitsZ off off)).fn (some v) c) (Nat.succ off)) (oneCell v)) ((getB (bitsZ off off)).fn c)) = _
    rw [forceN_eq, writeB_eq l, getB_eq, setB_eq, bitsZ_eq]
    conv => rhs; rw [writeCells]
    unfold PT.get PT.set
    cases PT.getL (bits off off) c with
    | none => rfl
    | some _ => simp only; cases oneCell v <;> rfl

structure StB where
  fn : Value → Value → Nat → HS → Res Value
def stB (t : TypeId) : StB :=
  Option.rec (motive := fun _ => StB) ⟨fun _ _ _ _ => .fail "store"⟩ (fun i =>
    ⟨fun x v lim s => ptrCase x (fun a => Bool.rec (motive := fun _ => Res Value) (.fail "store") (HS.rec (motive := fun _ => Res Value) (fun h n rd wr => Option.rec (motive := fun _ => Res Value) (.fail "get") (fun B =>
      cellsCase B (fun c ro => Bool.rec (motive := fun _ => Res Value) (Option.rec (motive := fun _ => Res Value) (.fail "store") (fun c' => .ok undefV (wrB lim a.block (some (.cells c' false)) (rdB lim a.block ⟨h, n, rd, wr⟩))) (writeB v.cells.toList c a.off)) (.fail "store") ro) (.fail "store")) (getH a.block h)) s) (Nat.beq (lenZ v.cells.toList) i.size)) (.fail "store")⟩) (P.info? t)
theorem rd_heap (lim id : Nat) (s : HS) : (rdZ lim id s).heap = s.heap := by
  rw [rdZ_eq]; cases Nat.blt id lim <;> rfl
theorem stB_eq (t : TypeId) (x v : Value) (lim : Nat) (s : HS) : (stB P t).fn x v lim s = runU (aStore P t x v) lim s := by
  unfold runU
  rw [runV_eq, AP.bindZ_eq]
  unfold stB aStore
  cases P.info? t with
  | none => cases x <;> first | rfl | (rename_i a; cases a <;> rfl)
  | some i =>
    simp only
    cases x with
    | pointer a =>
      cases a with
      | none => rfl
      | some a =>
        simp only [ptrCase, lenZ_eq]
        cases Nat.beq v.cells.toList.length i.size with
        | false => rfl
        | true =>
          obtain ⟨h, n, rd, wr⟩ := s
          simp only [cond_true, AP.bind, AP.run, getH_eq]
          cases hg : h.get a.block with
          | none => rfl
          | some B =>
            cases B with
            | cells c ro =>
              cases ro with
              | true => rfl
              | false =>
                simp only [cellsCase, writeB_eq]
                cases writeCells c a.off v.cells.toList with
                | none => rfl
                | some c' =>
                  simp only [AP.bind, AP.run]
                  simp only [wrB_eq, rdB_eq, setZ_eq, rdZ_eq]
                  cases Nat.blt a.block lim <;> simp only [cond_true, cond_false, hg]
            | _ => rfl
    | _ => rfl

def exB (i : Nat) (x : Value) (s : HS) : Res Value := match x with
  | .tuple vs => Option.rec (motive := fun _ => Res Value) (.fail "extract") (fun v => .ok v s) (nthZ vs.toList i)
  | _ => .fail "extract"
theorem exB_eq (i : Nat) (x : Value) (lim : Nat) (s : HS) : exB i x s = (aExtract x i).run lim s := by
  unfold exB aExtract
  cases x with
  | tuple vs =>
    simp only [nthZ_eq]
    cases vs.toList[i]? <;> rfl
  | _ => rfl

structure IxB where
  fn : Value → Value → Nat → HS → Res Value
def slCase {β : Type} (v : Value) (f : Addr → Nat → β) (d : β) : β := match v with
  | .slice (some a) n _ => f a n
  | _ => d
def ixB (t : TypeId) : IxB :=
  match P.underlying t with
  | some (.slice e) => Option.rec (motive := fun _ => IxB) ⟨fun x i lim s => runV (aIndexAddr P t x i) lim s⟩ (fun j => ⟨fun x i lim s => slCase x (fun a len => intCase i (fun _ m => Int.rec (motive := fun _ => Res Value) (fun n => Bool.rec (motive := fun _ => Res Value) (.fail "indexAddr")
      (Addr.rec (motive := fun _ => Res Value) (fun b o _ => .ok (.pointer (some ⟨b, Nat.add o (Nat.mul n j.size), none⟩)) s) a) (Nat.blt n len)) (fun _ => .fail "indexAddr") m) (.fail "indexAddr")) (.fail "indexAddr")⟩) (P.info? e)
  | _ => ⟨fun x i lim s => runV (aIndexAddr P t x i) lim s⟩
theorem ixB_eq (t : TypeId) (x i : Value) (lim : Nat) (s : HS) : (ixB P t).fn x i lim s = (aIndexAddr P t x i).run lim s := by
  unfold ixB
  split
  · rename_i e he
    cases hi : P.info? e with
    | none => exact runV_eq _ _ _
    | some j =>
      unfold aIndexAddr
      rw [he]
      cases x with
      | slice a len c =>
        cases a with
        | none => rfl
        | some a =>
          cases i with
          | int k m =>
            cases m with
            | ofNat n =>
              simp only [slCase, intCase, asNat, hi]
              cases Nat.blt n len <;> rfl
            | negSucc n => rfl
          | _ => rfl
      | _ => rfl
  · exact runV_eq _ _ _

structure ValB where
  fn : Over → EvT → Nat → Tm → HS → Res Value

def nextB (O : Over) (ev : EvT) (lim : Nat) (x : ANext) (s : HS) : Res Value := nextZ P O ev lim x s

/-! ### append -/

def ofListB (l : List Value) : PT Value → Nat → PT Value := List.rec (motive := fun _ => PT Value → Nat → PT Value) (fun t _ => t) (fun v _ ih t off => forceN off fun off => ih ((setB (bitsZ off off)).fn (some v) t) (Nat.succ off)) l
theorem ofListB_eq : ∀ (l : List Value) (t : PT Value) (off : Nat), ofListB l t off = PT.ofList t off l
  | [], t, off => rfl
  | v :: l, t, off => by
    show forceN off (fun off => ofListB l ((setB (bitsZ off off)).fn (some v) t) (Nat.succ off)) = _
    rw [forceN_eq, ofListB_eq l, setB_eq, bitsZ_eq]; rfl
def sameRow (v : Value) : List Value := [v]
def aFirstB (size : Nat) (x : Value) : AP (Nat × List Value) :=
  match x with
  | .slice none n _ => .pure (n, [])
  | .slice (some a) n _ => .get a.block fun
    | .cells c _ => match readB c (n * size) a.off with | some l => .pure (n, l) | none => .fail "cells"
    | _ => .fail "cells"
  | .string s => .pure (s.size, s.data.toList.map fun b => .int .u8 b.toNat)
  | _ => .fail "cells"
theorem aFirstB_eq (size : Nat) (x : Value) : aFirstB size x = aFirst size x := by
  unfold aFirstB aFirst
  simp only [readB_eq]
  rfl
def aGrowB (i : TypeInfo) (z : Value) (len n : Nat) (old new : List Value) : AP Value :=
  cond (Nat.ble (len + n) 1048576 && Nat.ble i.bytes 65536 && Nat.beq (lenZ z.cells.toList) i.size && Nat.beq (lenZ old) (len * i.size) && Nat.beq (lenZ new) (n * i.size))
    (.new (.cells (ofListB (appZ old new) .leaf 0) false) fun id => .pure (.slice (some ⟨id, 0, none⟩) (len + n) (capInf + i.size)))
    (.fail "append")
theorem aGrowB_eq (i : TypeInfo) (z : Value) (len n : Nat) (old new : List Value) : aGrowB i z len n old new = aGrow i z len n old new := by
  unfold aGrowB aGrow
  simp only [lenZ_eq, ofListB_eq, appZ_eq]
def aAppendToB (i : TypeInfo) (z : Value) (base : Option Addr) (len cap n : Nat) (new : List Value) : AP Value :=
  cond (Nat.beq n 0 && Nat.ble len cap && new.isEmpty) (.pure (.slice base len cap))
  (cond (Nat.ble capInf cap)
    (match base with
     | some a => cond (Nat.beq cap (capInf + i.size) && new.all oneCell)
        (.get a.block fun
          | .cells c false => match readB c (len * i.size) a.off with
            | some old => .kill a.block (aGrowB i z len n old new)
            | none => .fail "append"
          | _ => .fail "append") (.fail "append")
     | none => .fail "append")
    (cond (Nat.ble (len + n) cap)
      (match base with
       | some a => .get a.block fun
         | .cells c false => match writeB new c (a.off + len * i.size) with
           | some c' => .set a.block (.cells c' false) (.pure (.slice (some a) (len + n) cap))
           | none => .fail "append"
         | _ => .fail "append"
       | none => .fail "append")
      ((aFirstB i.size (.slice base len cap)).bindZ fun p => aGrowB i z len n p.2 new)))
theorem aAppendToB_eq (i : TypeInfo) (z : Value) (base : Option Addr) (len cap n : Nat) (new : List Value) : aAppendToB i z base len cap n new = aAppendTo i z base len cap n new := by
  unfold aAppendToB aAppendTo
  simp only [aGrowB_eq, aFirstB_eq, readB_eq, writeB_eq, AP.bindZ_eq]
  rfl
structure ApB where
  fn : Value → Value → AP Value
def appB (t tx : TypeId) : ApB :=
  match P.underlying t, P.underlying tx with
  | some (.slice _), some (.int _) => ⟨fun s x => aAppend P [t, tx] [s, x]⟩
  | some (.slice e), some _ => Option.rec (motive := fun _ => ApB) ⟨fun s x => aAppend P [t, tx] [s, x]⟩ (fun i => Option.rec (motive := fun _ => ApB) ⟨fun s x => aAppend P [t, tx] [s, x]⟩ (fun z =>
      ⟨fun s x => match s with
        | .slice base len cap => (aFirstB i.size x).bindZ fun p => aAppendToB i z base len cap p.1 p.2
        | _ => .fail "append"⟩) (zeroOf P e)) (P.info? e)
  | _, _ => ⟨fun s x => aAppend P [t, tx] [s, x]⟩
theorem appB_eq (t tx : TypeId) (s x : Value) : (appB P t tx).fn s x = aAppend P [t, tx] [s, x] := by
  unfold appB
  split
  · rfl
  · rename_i e d hni h1 h2
    cases hi : P.info? e with
    | none => rfl
    | some i =>
      cases hz : zeroOf P e with
      | none => rfl
      | some z =>
        simp only [aFirstB_eq, aAppendToB_eq, AP.bindZ_eq]
        unfold aAppend
        simp only [h1, h2]
        cases s with
        | slice base len cap =>
          cases d with
          | int k => exact absurd rfl (hni k)
          | _ => simp only [hi, hz]
        | _ => cases d <;> first | exact absurd rfl (hni _) | rfl
  · rfl
/-- A call of append whose types and operands are written out. -/
def callB (c : Call) : ValB :=
  match c.callee, c.argTypes.toList, c.args.toList with
  | .builtin .append, [t, tx], [a, b] => ⟨fun O ev lim m s => runV ((appB P t tx).fn ((evB a).fn m) ((evB b).fn m)) lim s⟩
  | _, _, _ => ⟨fun O ev lim m s => bndZ (runN (aCall P (evF m) c) lim s) (nextB P O ev lim)⟩
theorem callB_eq (c : Call) (O : Over) (ev : EvT) (lim : Nat) (m : Tm) (s : HS) : (callB P c).fn O ev lim m s = bndZ (runN (aCall P (evF m) c) lim s) (nextB P O ev lim) := by
  unfold callB
  split
  · rename_i t tx a b h1 h2 h3
    show runV ((appB P t tx).fn ((evB a).fn m) ((evB b).fn m)) lim s = _
    have : aCall P (evF m) c = (aAppend P [t, tx] [evF m a, evF m b]).bind fun v => .pure (.value v) := by
      unfold aCall
      rw [h1, h2, h3]
      rfl
    rw [this, appB_eq, bndZ_eq, runN_eq, runV_eq, run_bindP, bnd_assoc]
    exact (bnd_pure _).symm
  · rfl

/-! ### Values of operations, operations, code -/

def valOp (op : Op) : ValB :=
  Op.rec (motive := fun _ => ValB)
    (fun x => ⟨fun O ev lim m s => .ok ((evB x).fn m) s⟩)
    (fun x => ⟨fun O ev lim m s => .ok ((evB x).fn m) s⟩)
    (fun c a b => ⟨fun O ev lim m s => match (evB c).fn m with | .bool t => .ok (cond t ((evB a).fn m) ((evB b).fn m)) s | _ => .fail "pick"⟩)
    (fun e => ⟨fun O ev lim m s => runV (aAllocZ P e) lim s⟩)
    (fun _ x => ⟨fun O ev lim m s => runV (newRowZ ((evB x).fn m).cells.toList) lim s⟩)
    (fun t ps => ⟨fun O ev lim m s => runV (aBuild P t (ps.toList.map fun p => (p.1, evF m p.2))) lim s⟩)
    (fun t n ps => ⟨fun O ev lim m s => runV (aBuildSlice P t n (ps.toList.map fun p => (p.1, evF m p.2))) lim s⟩)
    (fun t m' k x => ⟨fun O ev lim m s => runU (aMapUpdate P t ((evB m').fn m) ((evB k).fn m) ((evB x).fn m)) lim s⟩)
    (fun t a => ⟨fun O ev lim m s => (ldB P t).fn ((evB a).fn m) lim s⟩)
    (fun t a x => ⟨fun O ev lim m s => (stB P t).fn ((evB a).fn m) ((evB x).fn m) lim s⟩)
    (fun _ => ⟨fun O ev lim m s => .fail "operation"⟩)
    (fun _ => ⟨fun O ev lim m s => .fail "operation"⟩)
    (fun x => ⟨fun O ev lim m s => runV (aNilCheck ((evB x).fn m)) lim s⟩)
    (fun op t x y _ => ⟨fun O ev lim m s => (binB P op t (isConst x) (isConst y)).fn ((evB x).fn m) ((evB y).fn m) lim s⟩)
    (fun op _ x => ⟨fun O ev lim m s => runV (.opt "unOp" (aUnary op ((evB x).fn m)) .pure) lim s⟩)
    (fun sr d x => ⟨fun O ev lim m s => runV (aConvert P sr d ((evB x).fn m)) lim s⟩)
    (fun _ _ => ⟨fun O ev lim m s => .fail "operation"⟩)
    (fun t x => ⟨fun O ev lim m s => runV (aMakeInterface P t ((evB x).fn m)) lim s⟩)
    (fun fn first captured => ⟨fun O ev lim m s => cond (fnPlain fn) (.ok (.func fn ⟨first.toList.map (evF m)⟩ ⟨captured.toList.map (evF m)⟩) s) (.fail "makeFunc")⟩)
    (fun t r => ⟨fun O ev lim m s => runV (aMakeMap P t (r.map (evF m))) lim s⟩)
    (fun _ _ => ⟨fun O ev lim m s => .fail "operation"⟩)
    (fun t l c => ⟨fun O ev lim m s => runV (aMakeSlice P t ((evB l).fn m) ((evB c).fn m)) lim s⟩)
    (fun t x lo hi mx => ⟨fun O ev lim m s => runV (aSlice P t ((evB x).fn m) (lo.map (evF m)) (hi.map (evF m)) (mx.map (evF m))) lim s⟩)
    (fun t x f => ⟨fun O ev lim m s => (faB P t f).fn ((evB x).fn m) lim s⟩)
    (fun t x f => ⟨fun O ev lim m s => runV (aField P t ((evB x).fn m) f) lim s⟩)
    (fun t x i => ⟨fun O ev lim m s => (ixB P t).fn ((evB x).fn m) ((evB i).fn m) lim s⟩)
    (fun t x i => ⟨fun O ev lim m s => runV (aIndex P t ((evB x).fn m) ((evB i).fn m)) lim s⟩)
    (fun t x i ok => ⟨fun O ev lim m s => runV (aLookup P t ((evB x).fn m) ((evB i).fn m) ok) lim s⟩)
    (fun t m' k x => ⟨fun O ev lim m s => runU (aMapUpdate P t ((evB m').fn m) ((evB k).fn m) ((evB x).fn m)) lim s⟩)
    (fun _ _ _ => ⟨fun O ev lim m s => .fail "operation"⟩)
    (fun _ _ _ _ => ⟨fun O ev lim m s => .fail "operation"⟩)
    (fun t x => ⟨fun O ev lim m s => runV (aRange P t ((evB x).fn m)) lim s⟩)
    (fun x b => ⟨fun O ev lim m s => runV (aNext ((evB x).fn m) b) lim s⟩)
    (fun x => ⟨fun O ev lim m s => runV (aEntry ((evB x).fn m)) lim s⟩)
    (fun x _ t ok => ⟨fun O ev lim m s => runV (aTypeAssert P ((evB x).fn m) t ok) lim s⟩)
    (fun x i => ⟨fun O ev lim m s => exB i ((evB x).fn m) s⟩)
    (fun c => callB P c)
    (fun _ => ⟨fun O ev lim m s => .fail "operation"⟩)
    (fun _ => ⟨fun O ev lim m s => .fail "operation"⟩)
    (fun _ => ⟨fun O ev lim m s => .fail "operation"⟩)
    (fun _ _ => ⟨fun O ev lim m s => .fail "operation"⟩)
    (fun _ _ _ => ⟨fun O ev lim m s => .fail "operation"⟩)
    (fun _ _ => ⟨fun O ev lim m s => .fail "operation"⟩) op

theorem valOp_eq (O : Over) (ev : EvT) (lim : Nat) (m : Tm) (o : Oper) (s : HS) : (valOp P o.op).fn O ev lim m s = bnd ((aOp P m.eval o).run lim s) fun x s => nextA P O ev lim x s := by
  have hv := val_bind P O ev lim
  have hu := unit_bind P O ev lim
  have hn : ∀ p : AP ANext, ∀ s, bndZ (runN p lim s) (nextB P O ev lim) = bnd (p.run lim s) fun x s => nextA P O ev lim x s := by
    intro p s
    rw [bndZ_eq, runN_eq]
    congr 1
    funext x s
    exact nextZ_eq P O ev lim x s
  unfold aOp
  cases h : o.op with
  | pick c a b =>
    simp only [valOp, evB_eq]
    cases m.eval c <;> rfl
  | makeFunc fn first captured =>
    simp only [valOp, evF_eq]
    cases fnPlain fn <;> rfl
  | call c =>
    show (callB P c).fn O ev lim m s = _
    rw [callB_eq, evF_eq]; exact hn _ s
  | load t a => simp only [valOp, evB_eq, ldB_eq]; rw [hv, runV_eq]
  | store t a x => simp only [valOp, evB_eq, stB_eq]; rw [hu]
  | fieldAddr t x f => simp only [valOp, evB_eq, faB_eq]; rw [hv, runV_eq]
  | indexAddr t x i => simp only [valOp, evB_eq, ixB_eq]; rw [hv, runV_eq]
  | binOp op t x y _ => simp only [valOp, evB_eq, binB_eq]; rw [hv, runV_eq]
  | extract x i => simp only [valOp, evB_eq]; rw [exB_eq i _ lim s, hv, runV_eq]
  | _ => first | rfl | (simp only [valOp, evB_eq, evF_eq, aAllocZ_eq, newRowZ_eq]; first | rfl | exact (hv _ _).symm | exact (hu _ _).symm)

def valB (op : Op) : ValB := Bool.rec (motive := fun _ => ValB) ⟨fun _ _ _ _ _ => .fail "an address among the constants"⟩ (valOp P op) (op.operands.toList.all opFlat)
theorem valB_eq (O : Over) (ev : EvT) (lim : Nat) (m : Tm) (o : Oper) (s : HS) : (valB P o.op).fn O ev lim m s = valA P O ev lim m.eval o s := by
  unfold valB valA
  cases o.op.operands.toList.all opFlat with
  | false => rfl
  | true => exact valOp_eq P O ev lim m o s

structure PutB where
  fn : Value → Tm → HS → Res Tm
def putB (d : Option Nat) : PutB :=
  Option.rec (motive := fun _ => PutB) ⟨fun _ m s => .ok m s⟩ (fun i => ⟨fun v m s => Tm.rec (motive := fun _ => Res Tm) (fun n t dfs => Bool.rec (motive := fun _ => Res Tm) (.fail "slot") (.ok ⟨n, (setB (bitsZ i i)).fn (some v) t, dfs⟩ s) (Nat.blt i n)) m⟩) d
theorem putB_eq (d : Option Nat) (v : Value) (m : Tm) (s : HS) : (putB d).fn v m s = putA m d v s := by
  unfold putB putA Tm.put PT.set
  cases d with
  | none => rfl
  | some i =>
    cases m with
    | mk n t dfs =>
      simp only [setB_eq, bitsZ_eq]
      cases Nat.blt i n <;> rfl

def guardB (ops : List Oper) (g : Nat × Bool) : TmB Bool :=
  Option.rec (motive := fun _ => TmB Bool) ⟨fun _ => false⟩ (fun o => Option.rec (motive := fun _ => TmB Bool) ⟨fun _ => false⟩ (fun d => ⟨fun m => match (slotB d).fn m with | .bool b => Bool.rec (motive := fun _ => Bool) (notB g.2) g.2 b | _ => false⟩) o.dst) (nthZ ops g.1)
theorem guardB_eq (ops : List Oper) (m : Tm) (g : Nat × Bool) (o : Oper) (h : o.guard = some g) : (guardB ops g).fn m = wantedA ops m o := by
  obtain ⟨j, want⟩ := g
  unfold guardB wantedA yieldedA
  rw [h, nthZ_eq]
  simp only
  cases ops[j]? with
  | none => rfl
  | some q =>
    simp only
    cases q.dst with
    | none => rfl
    | some d =>
      simp only [slotB_eq]
      cases m.get d with
      | bool b => cases b <;> cases want <;> rfl
      | _ => rfl

structure OpB where
  fn : Over → EvT → Nat → Tm → HS → Res Tm
def opB (ops : List Oper) (o : Oper) : OpB :=
  Oper.rec (motive := fun _ => OpB) (fun dst op _ _ _ guard => Option.rec (motive := fun _ => OpB)
    ⟨fun O ev lim m s => bndZ ((valB P op).fn O ev lim m s) fun v s => (putB dst).fn v m s⟩
    (fun g => ⟨fun O ev lim m s => bndZ (Bool.rec (motive := fun _ => Res Value) (.ok undefV s) ((valB P op).fn O ev lim m s) ((guardB ops g).fn m)) fun v s => (putB dst).fn v m s⟩) guard) o
theorem opB_eq (O : Over) (ev : EvT) (lim : Nat) (ops : List Oper) (o : Oper) (m : Tm) (s : HS) : (opB P ops o).fn O ev lim m s = opA P O ev lim ops o m s := by
  have e := valB_eq P O ev lim m o s
  obtain ⟨dst, op, ty, pos, after, guard⟩ := o
  unfold opA
  simp only at e
  cases guard with
  | none =>
    show bndZ ((valB P op).fn O ev lim m s) (fun v s => (putB dst).fn v m s) = _
    simp only [bndZ_eq, putB_eq, e]
    rfl
  | some g =>
    show bndZ (Bool.rec (motive := fun _ => Res Value) (.ok undefV s) ((valB P op).fn O ev lim m s) ((guardB ops g).fn m)) (fun v s => (putB dst).fn v m s) = _
    simp only [bndZ_eq, putB_eq, e, guardB_eq ops m g ⟨dst, op, ty, pos, after, some g⟩ rfl]
    cases wantedA ops m ⟨dst, op, ty, pos, after, some g⟩ <;> rfl

def opsB (ops : List Oper) (l : List Oper) : OpB :=
  List.rec (motive := fun _ => OpB) ⟨fun _ _ _ m s => .ok m s⟩ (fun o _ ih => ⟨fun O ev lim m s => bndZ ((opB P ops o).fn O ev lim m s) (ih.fn O ev lim)⟩) l
theorem opsB_eq (O : Over) (ev : EvT) (lim : Nat) (ops : List Oper) : ∀ (l : List Oper) (m : Tm) (s : HS), (opsB P ops l).fn O ev lim m s = opsA P O ev lim ops l m s
  | [], m, s => rfl
  | o :: l, m, s => by
    show bndZ ((opB P ops o).fn O ev lim m s) ((opsB P ops l).fn O ev lim) = bnd (opA P O ev lim ops o m s) fun m s => opsA P O ev lim ops l m s
    rw [bndZ_eq, opB_eq]
    congr 1
    funext m s
    exact opsB_eq O ev lim ops l m s

structure FootB where
  fn : Over → EvT → Tm → PT ABlk → Nat → Res (Tm × List Foot)
def opsFB (ops : List Oper) (l : List Oper) : FootB :=
  List.rec (motive := fun _ => FootB) ⟨fun _ _ m h n => .ok (m, []) ⟨h, n, [], []⟩⟩
    (fun o _ ih => ⟨fun O ev m h n => bndZ ((opB P ops o).fn O ev n m ⟨h, n, [], []⟩) fun m s => HS.rec (motive := fun _ => Res (Tm × List Foot)) (fun h' n' rd wr => bndZ (ih.fn O ev m h' n') fun x s' => Prod.rec (motive := fun _ => Res (Tm × List Foot)) (fun y fs => .ok (y, ⟨n, n', rd, wr⟩ :: fs) s') x) s⟩) l
theorem opsFB_eq (O : Over) (ev : EvT) (ops : List Oper) : ∀ (l : List Oper) (m : Tm) (h : PT ABlk) (n : Nat), (opsFB P ops l).fn O ev m h n = opsF P O ev ops l m h n
  | [], m, h, n => rfl
  | o :: l, m, h, n => by
    show bndZ ((opB P ops o).fn O ev n m ⟨h, n, [], []⟩) (fun m s => HS.rec (motive := fun _ => Res (Tm × List Foot)) (fun h' n' rd wr => bndZ ((opsFB P ops l).fn O ev m h' n') fun x s' => Prod.rec (motive := fun _ => Res (Tm × List Foot)) (fun y fs => .ok (y, ⟨n, n', rd, wr⟩ :: fs) s') x) s) = bnd (opA P O ev n ops o m ⟨h, n, [], []⟩) fun m s => bnd (opsF P O ev ops l m s.heap s.next) fun x s' => .ok (x.1, ⟨n, s.next, s.rd, s.wr⟩ :: x.2) s'
    rw [bndZ_eq, opB_eq]
    congr 1
    funext m s
    cases s
    simp only [bndZ_eq, opsFB_eq O ev ops l]

def drawB (ops : List Oper) : OpB :=
  Option.rec (motive := fun _ => OpB) ⟨fun _ _ _ _ _ => .fail "operations whose order is open share a slot"⟩
    (fun L => ⟨fun O ev lim m s => HS.rec (motive := fun _ => Res Tm) (fun h n rd wr => bndZ ((opsFB P ops ops).fn O ev m h n) fun x s' => Prod.rec (motive := fun _ => Res Tm) (fun y fs =>
      Bool.rec (motive := fun _ => Res Tm) (.fail "operations whose order is open touch one block")
        (HS.rec (motive := fun _ => Res Tm) (fun h' n' _ _ => .ok y (Bool.rec (motive := fun _ => HS) (mergeZ lim h' n' fs rd wr) ⟨h', n', rd, wr⟩ (Nat.beq lim 0))) s')
        (footsZ fs L)) x) s⟩)
    (regZ ops)
theorem drawB_eq (O : Over) (ev : EvT) (lim : Nat) (ops : List Oper) (m : Tm) (s : HS) : (drawB P ops).fn O ev lim m s = drawA P O ev lim ops m s := by
  unfold drawB drawA
  rw [regZ_eq]
  cases drawOk ops (loosePairs (ancestors [] ops) ops.length) with
  | false => rfl
  | true =>
    obtain ⟨h, n, rd, wr⟩ := s
    simp only [cond_true, bndZ_eq, opsFB_eq]
    congr 1
    funext x s'
    obtain ⟨y, fs⟩ := x
    simp only [footsZ_eq]
    cases footsOk fs (loosePairs (ancestors [] ops) ops.length) with
    | false => rfl
    | true =>
      cases s'
      simp only [cond_true, mergeZ_eq]
      cases Nat.beq lim 0 <;> rfl

structure CodeB where
  fn : Over → EvT → Option Nat → Nat → Tm → HS → Res (AExit × Tm)
def codeB (c : Code) : CodeB :=
  Code.rec (motive := fun _ => CodeB)
    ⟨fun _ _ _ _ m s => .ok (.normal, m) s⟩
    (fun _ ops draw => Bool.rec (motive := fun _ => CodeB) ⟨fun O ev ro lim m s => bndZ ((opsB P ops.toList ops.toList).fn O ev lim m s) fun m s => .ok (.normal, m) s⟩ ⟨fun O ev ro lim m s => bndZ ((drawB P ops.toList).fn O ev lim m s) fun m s => .ok (.normal, m) s⟩ draw)
    (fun a b _ _ => ⟨fun O ev ro lim m s => bndZ (ev ro lim a m s) fun x s => Prod.rec (motive := fun _ => Res (AExit × Tm)) (fun e m => AExit.rec (motive := fun _ => Res (AExit × Tm)) (ev ro lim b m s) (fun i => .ok (.exit i, m) s) (.ok (.ret, m) s) e) x⟩)
    (fun c a b _ _ => Bool.rec (motive := fun _ => CodeB) ⟨fun _ _ _ _ _ _ => .fail "cond"⟩ ⟨fun O ev ro lim m s => match (evB c).fn m with
      | .bool t => Bool.rec (motive := fun _ => Res (AExit × Tm)) (ev ro lim b m s) (ev ro lim a m s) t
      | _ => .fail "cond"⟩ (opFlat c))
    (fun id c _ => ⟨fun O ev ro lim m s => bndZ (ev ro lim c m s) fun x s => Prod.rec (motive := fun _ => Res (AExit × Tm)) (fun e m => AExit.rec (motive := fun _ => Res (AExit × Tm)) (.ok (.normal, m) s) (fun i => .ok (cond (Nat.beq i id) .normal (.exit i), m) s) (.ok (.ret, m) s) e) x⟩)
    (fun c _ => ⟨fun O ev ro lim m s => bndZ (ev ro lim c m s) fun x s => Prod.rec (motive := fun _ => Res (AExit × Tm)) (fun e m => AExit.rec (motive := fun _ => Res (AExit × Tm)) (ev ro lim (.loop c) m s) (fun i => .ok (.exit i, m) s) (.ok (.ret, m) s) e) x⟩)
    (fun g ps assign body _ _ => ⟨fun O ev ro lim m s => rangeA P O ev ro lim g ps.toList assign body m s⟩)
    (fun id => ⟨fun _ _ _ _ m s => .ok (.exit id, m) s⟩)
    (fun c _ => ⟨fun O ev ro lim m s => ev ro lim c m s⟩)
    (fun _ => ⟨fun _ _ _ _ m s => .ok (.normal, m) s⟩)
    (fun _ => ⟨fun _ _ _ _ m s => .fail "code"⟩)
    ⟨fun _ _ _ _ m s => .ok (.ret, m) s⟩
    (fun _ => ⟨fun _ _ _ _ m s => .fail "code"⟩) c
theorem codeB_eq (O : Over) (ev : EvT) (ro : Option Nat) (lim : Nat) (c : Code) (m : Tm) (s : HS) : (codeB P c).fn O ev ro lim m s = stepC P O ev ro lim c m s := by
  cases c with
  | region i ops draw =>
    cases draw with
    | true => simp only [codeB, stepC, bndZ_eq, drawB_eq]; rfl
    | false => simp only [codeB, stepC, bndZ_eq, opsB_eq]; rfl
  | seq a b =>
    simp only [codeB, stepC, bndZ_eq]
    congr 1; funext x s; obtain ⟨e, m⟩ := x; cases e <;> rfl
  | block i c =>
    simp only [codeB, stepC, bndZ_eq]
    congr 1; funext x s; obtain ⟨e, m⟩ := x; cases e <;> rfl
  | loop c =>
    simp only [codeB, stepC, bndZ_eq]
    congr 1; funext x s; obtain ⟨e, m⟩ := x; cases e <;> rfl
  | cond c a b =>
    simp only [codeB, stepC]
    cases opFlat c with
    | false => rfl
    | true =>
      simp only [cond_true, evB_eq]
      cases m.eval c with
      | bool t => cases t <;> rfl
      | _ => rfl
  | _ => rfl

variable (O : Over)
def evBn (n : Nat) : EvT := Nat.rec (motive := fun _ => EvT) (fun _ _ _ _ _ => .fail "fuel") (fun _ ev ro lim c m s => (codeB P c).fn O ev ro lim m s) n
theorem evBn_eq : ∀ n, evBn P O n = evC P O n
  | 0 => rfl
  | n + 1 => by
    show (fun ro lim c m s => (codeB P c).fn O (evBn P O n) ro lim m s) = stepC P O (evC P O n)
    rw [evBn_eq n]
    funext ro lim c m s
    exact codeB_eq P O _ ro lim c m s

def lawB (fuel : Nat) (f : FuncId) : Bool := isTrue (callZ P O (evBn P O fuel) 0 f [] startHS)
theorem lawB_eq (fuel : Nat) (f : FuncId) : lawB P O fuel f = lawZ P O fuel f := by
  unfold lawB lawZ
  rw [evBn_eq, evZ_eq]
theorem z_of_b {P : Program} {O : Over} {fuel : Nat} {f : FuncId} (h : lawB P O fuel f = true) : lawZ P O fuel f = true := by rw [← lawB_eq]; exact h
end
end Go.Am
