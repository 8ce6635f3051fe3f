/-
  The abstract machine, for proofs with variables: building, appending, slicing; what simp needs besides.
-/
import Derived.Test.YthhohpbghfbkbaaAmX6
import Derived.Test.YthhohpbghfbkbaaAmX7
set_option linter.unusedSimpArgs false
set_option linter.unusedVariables false
namespace Go.Am

attribute [go_sem] List.all_cons List.all_nil Bool.and_true Bool.true_and Bool.and_false Bool.false_and Bool.or_true Bool.true_or Bool.or_false Bool.false_or Bool.not_true Bool.not_false
  Option.map_some Option.map_none List.getElem?_cons_zero List.getElem?_cons_succ List.getElem?_nil Option.getD_some List.map_cons List.map_nil List.nil_append List.cons_append List.append_nil
  List.length_cons List.length_nil List.set_cons_zero List.set_cons_succ List.drop_zero List.drop_succ_cons List.take_zero List.take_succ_cons List.drop_nil List.take_nil List.isEmpty_cons List.isEmpty_nil
  cond_true cond_false true_and and_true Option.isNone_some Option.isNone_none Bool.xor_false Bool.xor_true Bool.false_xor Bool.true_xor
  Nat.zero_add Nat.add_zero Nat.mul_one Nat.zero_mul Nat.one_mul List.length_append List.length_map List.append_assoc
  decide_true decide_false eq_self ne_eq not_true_eq_false not_false_eq_true

@[go_sem] theorem arr_toList (l : List Value) : (⟨l⟩ : Array Value).toList = l := rfl
@[go_sem] theorem arrO_toList (l : List Operand) : (⟨l⟩ : Array Operand).toList = l := rfl
@[go_sem] theorem arrP_toList (l : List (Nat × Operand)) : (⟨l⟩ : Array (Nat × Operand)).toList = l := rfl
@[go_sem] theorem arrT_toList (l : List TypeId) : (⟨l⟩ : Array TypeId).toList = l := rfl
@[go_sem] theorem arrOp_toList (l : List Oper) : (⟨l⟩ : Array Oper).toList = l := rfl
@[go_sem] theorem arrR_toList (l : List ResultVar) : (⟨l⟩ : Array ResultVar).toList = l := rfl
@[go_sem] theorem arrO_append (l l' : List Operand) : (⟨l⟩ : Array Operand) ++ (⟨l'⟩ : Array Operand) = ⟨l ++ l'⟩ := by simp
@[go_sem] theorem opt_some_arr (x : Operand) : (some x).toArray = #[x] := rfl
@[go_sem] theorem opt_none_arr : (none : Option Operand).toArray = #[] := rfl
@[go_sem] theorem call_operands {f : Operand} {as : Array Operand} {ts : Array TypeId} : (⟨.value f, as, ts⟩ : Call).operands = #[f] ++ as := rfl
@[go_sem] theorem call_operands' {b : Builtin} {as : Array Operand} {ts : Array TypeId} : (⟨.builtin b, as, ts⟩ : Call).operands = as := by simp [Call.operands]

/-! the end -/
def optCons (o : Option Value) (r : Option (List Value)) : Option (List Value) := match o, r with
  | some v, some l => some (v :: l)
  | _, _ => none
@[go_sem] theorem optCons_some {v : Value} {l : List Value} : optCons (some v) (some l) = some (v :: l) := rfl
section
variable {P : Program} {m : Tm} {h : PT ABlk}
@[go_sem] theorem resV_nil : resV P m h [] = some [] := rfl
@[go_sem] theorem resV_tmp {t : Tmp} {r : List ResultVar} : resV P m h (.tmp t :: r) = optCons (some (m.get t)) (resV P m h r) := by
  rw [resV]; cases resV P m h r <;> rfl
@[go_sem] theorem resV_cell {a : Tmp} {t : TypeId} {r : List ResultVar} : resV P m h (.cell a t :: r) = optCons (ldO P t (m.get a) h) (resV P m h r) := by
  rw [resV]
  cases ldO P t (m.get a) h with
  | none => rfl
  | some v => cases resV P m h r <;> rfl
def ldQ (g : Option Bool) (s : Option Nat) (off : Nat) (b : Option ABlk) : Option Value := match g, s, b with
  | some true, some s, some (.cells c _) => (readCells c off s).map fun l => .agg ⟨l⟩
  | some false, some _, some (.cells c _) => c.get off
  | _, _, _ => none
@[go_sem] theorem ldO_ptr {t : TypeId} {b off : Nat} {sp : Option Nat} : ldO P t (.pointer (some ⟨b, off, sp⟩)) h = ldQ (agT P t) (szT P t) off (h.get b) := by
  unfold ldO aLoad ldQ agT szT
  cases P.info? t with
  | none => cases P.underlying t with
    | none => rfl
    | some u => simp only [Option.map_some, Option.map_none]; cases isAgg u <;> rfl
  | some i =>
    cases P.underlying t with
    | none => rfl
    | some u =>
      simp only [AP.run, Option.map_some, show ∀ m, (S0 h m).heap = h from fun _ => rfl]
      cases h.get b with
      | none => cases isAgg u <;> rfl
      | some B =>
        simp only [show Nat.blt b 0 = false from rfl, cond_false]
        cases B with
        | cells c ro =>
          cases isAgg u with
          | false => simp only [cond_false]; cases c.get off <;> rfl
          | true => simp only [cond_true]; cases readCells c off i.size <;> rfl
        | _ => cases isAgg u <;> rfl
@[go_sem] theorem ldQ_1 {s off : Nat} {L : List Value} {ro : Bool} : ldQ (some false) (some s) off (some (.cells (PT.ofList .leaf 0 L) ro)) = L[off]? := by simp [ldQ, PT.get_ofList_leaf]
@[go_sem] theorem ldQ_N {s off : Nat} {L : List Value} {ro : Bool} : ldQ (some true) (some s) off (some (.cells (PT.ofList .leaf 0 L) ro)) = cond (Nat.ble (off + s) L.length || Nat.beq s 0) (some (.agg ⟨(L.drop off).take s⟩)) none := by
  simp only [ldQ, readCells_row]; cases (Nat.ble (off + s) L.length || Nat.beq s 0) <;> rfl
@[go_sem] theorem oneOf_one {v : Value} : oneOf [v] = v := rfl
@[go_sem] theorem oneOf_two {v w : Value} {l : List Value} : oneOf (v :: w :: l) = .tuple ⟨v :: w :: l⟩ := rfl
end

/-! tables of summaries -/
@[go_sem] theorem tabO_nil {f : FuncId} {args : List Value} : tabO [] f args = none := rfl
@[go_sem] theorem tabO_cons {g f : FuncId} {s : List Value → Option (AP Value)} {l : Tab} {args : List Value} : tabO ((g, s) :: l) f args = cond (Nat.beq f g) (s args) (tabO l f args) := rfl

/-! regions that draw: the notes -/
@[go_sem] theorem meets_nil {b : List Nat} : meets [] b = false := rfl
@[go_sem] theorem meets_cons {x : Nat} {a b : List Nat} : meets (x :: a) b = (b.any (Nat.beq x) || meets a b) := rfl
attribute [go_sem] List.any_cons List.any_nil List.reverse_cons List.reverse_nil clash
@[go_sem] theorem meetsRange_nil {lo hi : Nat} : meetsRange [] lo hi = false := rfl
@[go_sem] theorem meetsRange_cons {x lo hi : Nat} {a : List Nat} : meetsRange (x :: a) lo hi = (Nat.ble lo x && Nat.blt x hi || meetsRange a lo hi) := rfl
@[go_sem] theorem footsOk_nil {fs : List Foot} : footsOk fs [] = true := rfl
def clashO (f g : Option Foot) : Bool := match f, g with
  | some f, some g => !clash f g
  | _, _ => false
@[go_sem] theorem footsOk_cons {fs : List Foot} {i j : Nat} {L : List (Nat × Nat)} : footsOk fs ((i, j) :: L) = (clashO fs[i]? fs[j]? && footsOk fs L) := rfl
@[go_sem] theorem clashO_some {f g : Foot} : clashO (some f) (some g) = !clash f g := rfl

section ops
variable {P : Program} {ρ : Operand → Value} {d : Option Tmp} {ty : TypeId} {pos : String} {af : Array Edge} {g : Option (Nat × Bool)}

/-! building -/
def fillQ (pl : Option (Nat × Nat)) (cells vs : List Value) : Option (List Value) := match pl with
  | some (off, size) => cond (Nat.beq vs.length size && Nat.ble (off + vs.length) cells.length) (some (setRange cells off vs)) none
  | none => none
def fillN (place : Nat → Option (Nat × Nat)) (c : Option (List Value)) (r : List (Nat × Value)) : Option (List Value) := match c with
  | some c => fillL place c r
  | none => none
@[go_sem] theorem fillL_nil {place : Nat → Option (Nat × Nat)} {cells : List Value} : fillL place cells [] = some cells := rfl
@[go_sem] theorem fillL_cons {place : Nat → Option (Nat × Nat)} {cells : List Value} {i : Nat} {v : Value} {r : List (Nat × Value)} : fillL place cells ((i, v) :: r) = fillN place (fillQ (place i) cells v.cells.toList) r := by
  rw [fillL]; unfold fillQ
  cases place i with
  | none => rfl
  | some p =>
    obtain ⟨off, size⟩ := p
    simp only
    cases (Nat.beq v.cells.toList.length size && Nat.ble (off + v.cells.toList.length) cells.length) <;> rfl
@[go_sem] theorem fillQ_some {off size : Nat} {cells vs : List Value} : fillQ (some (off, size)) cells vs = cond (Nat.beq vs.length size && Nat.ble (off + vs.length) cells.length) (some (setRange cells off vs)) none := rfl
@[go_sem] theorem fillN_some {place : Nat → Option (Nat × Nat)} {c : List Value} {r : List (Nat × Value)} : fillN place (some c) r = fillL place c r := rfl
@[go_sem] theorem setRange_eq {l vs : List Value} {off : Nat} : setRange l off vs = l.take off ++ vs ++ l.drop (off + vs.length) := rfl
attribute [go_sem] rep

/-- A struct's zero cells and its fields' places; an array's elements' size. -/
def bdT (P : Program) (t : TypeId) : Option (List Value × (Nat → Option (Nat × Nat))) :=
  match zeroOf P t, P.underlying t with
  | some z, some (.struct fs) => (fieldPlaces P fs.toList).map fun ps => (z.cells.toList, (ps[·]?))
  | some z, some (.array _ e) => (P.info? e).map fun i => (z.cells.toList, fun j => some (j * i.size, i.size))
  | _, _ => none
def aggQ (w : String) (o : Option (List Value)) : AP ANext := match o with
  | some l => .pure (.value (.agg ⟨l⟩))
  | none => .fail w
@[go_sem] theorem aggQ_some {w : String} {l : List Value} : aggQ w (some l) = .pure (.value (.agg ⟨l⟩)) := rfl
def bdQ (k : Option (List Value × (Nat → Option (Nat × Nat)))) (parts : List (Nat × Value)) : AP ANext := match k with
  | some (z, pl) => aggQ "build" (fillL pl z parts)
  | none => .fail "build"
@[go_sem] theorem bdQ_some {z : List Value} {pl : Nat → Option (Nat × Nat)} {parts : List (Nat × Value)} : bdQ (some (z, pl)) parts = aggQ "build" (fillL pl z parts) := rfl
@[go_sem] theorem aOp_build {t : TypeId} {ps : Array (Nat × Operand)} : aOp P ρ ⟨d, .build t ps, ty, pos, af, g⟩ = bdQ (bdT P t) (ps.toList.map fun p => (p.1, ρ p.2)) := by
  show (aBuild P t _).bind _ = _
  unfold aBuild bdQ bdT
  generalize ps.toList.map (fun p => (p.1, ρ p.2)) = l
  cases zeroOf P t with
  | none => rfl
  | some z =>
    cases P.underlying t with
    | none => rfl
    | some u =>
      cases u with
      | struct fs =>
        simp only
        cases fieldPlaces P fs.toList with
        | none => rfl
        | some ps => simp only [Option.map_some]; cases fillL (ps[·]?) z.cells.toList l <;> rfl
      | array len e =>
        simp only
        cases P.info? e with
        | none => rfl
        | some i => simp only [Option.map_some]; cases fillL (fun j => some (j * i.size, i.size)) z.cells.toList l <;> rfl
      | _ => rfl

/-- A slice's elements: their size, bytes, zero cells. -/
def elT (P : Program) (t : TypeId) : Option (Nat × Nat × List Value) :=
  match P.underlying t with
  | some (.slice e) => match P.info? e, zeroOf P e with
    | some i, some z => some (i.size, i.bytes, z.cells.toList)
    | _, _ => none
  | _ => none
def rowQ (n : Nat) (o : Option (List Value)) : AP ANext := match o with
  | some l => .new (.cells (PT.ofList .leaf 0 l) false) fun id => .pure (.value (.slice (some ⟨id, 0, none⟩) n n))
  | none => .fail "buildSlice"
@[go_sem] theorem rowQ_some {n : Nat} {l : List Value} : rowQ n (some l) = .new (.cells (PT.ofList .leaf 0 l) false) fun id => .pure (.value (.slice (some ⟨id, 0, none⟩) n n)) := rfl
def bsQ (k : Option (Nat × Nat × List Value)) (n : Nat) (parts : List (Nat × Value)) : AP ANext := match k with
  | some (s, _, z) => cond (Nat.ble (n * s) 16777216 && Nat.beq z.length s && Nat.blt 0 s) (rowQ n (fillL (fun j => some (j * s, s)) (rep z n) parts)) (.fail "buildSlice")
  | none => .fail "buildSlice"
@[go_sem] theorem bsQ_some {s b n : Nat} {z : List Value} {parts : List (Nat × Value)} : bsQ (some (s, b, z)) n parts = cond (Nat.ble (n * s) 16777216 && Nat.beq z.length s && Nat.blt 0 s) (rowQ n (fillL (fun j => some (j * s, s)) (rep z n) parts)) (.fail "buildSlice") := rfl
@[go_sem] theorem aOp_buildSlice {t : TypeId} {n : Nat} {ps : Array (Nat × Operand)} : aOp P ρ ⟨d, .buildSlice t n ps, ty, pos, af, g⟩ = bsQ (elT P t) n (ps.toList.map fun p => (p.1, ρ p.2)) := by
  show (aBuildSlice P t n _).bind _ = _
  unfold aBuildSlice bsQ elT
  generalize ps.toList.map (fun p => (p.1, ρ p.2)) = l
  cases P.underlying t with
  | none => rfl
  | some u =>
    cases u with
    | slice e =>
      simp only
      cases P.info? e with
      | none => rfl
      | some i =>
        cases zeroOf P e with
        | none => rfl
        | some z =>
          simp only
          cases (Nat.ble (n * i.size) 16777216 && Nat.beq z.cells.toList.length i.size && Nat.blt 0 i.size) with
          | false => rfl
          | true =>
            simp only [cond_true]
            cases fillL (fun j => some (j * i.size, i.size)) (rep z.cells.toList n) l <;> rfl
    | _ => rfl

/-! making -/
def msQ (k : Option (Nat × Nat × List Value)) (l c : Option Nat) : AP ANext := match k, l, c with
  | some (s, by', z), some l, some c => cond (Nat.ble l c && Nat.ble c 1048576 && Nat.ble by' 65536 && Nat.beq z.length s && Nat.blt 0 s)
      (.new (.cells (PT.ofList .leaf 0 (rep z c)) false) fun id => .pure (.value (.slice (some ⟨id, 0, none⟩) l c))) (.fail "makeSlice")
  | _, _, _ => .fail "makeSlice"
@[go_sem] theorem msQ_some {s by' l c : Nat} {z : List Value} : msQ (some (s, by', z)) (some l) (some c) = cond (Nat.ble l c && Nat.ble c 1048576 && Nat.ble by' 65536 && Nat.beq z.length s && Nat.blt 0 s)
      (.new (.cells (PT.ofList .leaf 0 (rep z c)) false) fun id => .pure (.value (.slice (some ⟨id, 0, none⟩) l c))) (.fail "makeSlice") := rfl
@[go_sem] theorem aOp_makeSlice {t : TypeId} {l c : Operand} : aOp P ρ ⟨d, .makeSlice t l c, ty, pos, af, g⟩ = msQ (elT P t) (asNat (ρ l)) (asNat (ρ c)) := by
  show (aMakeSlice P t (ρ l) (ρ c)).bind _ = _
  unfold aMakeSlice msQ elT
  generalize asNat (ρ l) = x
  generalize asNat (ρ c) = y
  cases P.underlying t with
  | none => rfl
  | some u =>
    cases u with
    | slice e =>
      cases x with
      | none => dsimp only; cases P.info? e <;> cases zeroOf P e <;> rfl
      | some x => cases y with
        | none => dsimp only; cases P.info? e <;> cases zeroOf P e <;> rfl
        | some y =>
          dsimp only
          cases P.info? e with
          | none => cases zeroOf P e <;> rfl
          | some i => cases zeroOf P e with
            | none => rfl
            | some z =>
              dsimp only
              cases (Nat.ble x y && Nat.ble y 1048576 && Nat.ble i.bytes 65536 && Nat.beq z.cells.toList.length i.size && Nat.blt 0 i.size) <;> rfl
    | _ => rfl

/-! appending -/
def apGrow (s by' zl len n : Nat) (old new : List Value) : AP Value :=
  cond (Nat.ble (len + n) 1048576 && Nat.ble by' 65536 && Nat.beq zl s && Nat.beq old.length (len * s) && Nat.beq new.length (n * s))
    (.new (.cells (PT.ofList .leaf 0 (old ++ new)) false) fun id => .pure (.slice (some ⟨id, 0, none⟩) (len + n) (capInf + s)))
    (.fail "append")
/-- A slice of known room that is full, or nil: its row is copied. -/
def apTo (s by' zl : Nat) (base : Option Addr) (len cap n : Nat) (new : List Value) : AP Value :=
  cond (Nat.beq n 0 && Nat.ble len cap && new.isEmpty) (.pure (.slice base len cap))
  (cond (Nat.ble capInf cap)
    (match base with
     | some a => cond (Nat.beq cap (capInf + s) && new.all oneCell)
        (.get a.block fun
          | .cells c false => match readCells c a.off (len * s) with
            | some old => .kill a.block (apGrow s by' zl len n old new)
            | none => .fail "append"
          | _ => .fail "append") (.fail "append")
     | none => .fail "append")
    (cond (Nat.ble (len + n) cap)
      (match base with
       | some a => .get a.block fun
         | .cells c false => match writeCells c (a.off + len * s) new with
           | some c' => .set a.block (.cells c' false) (.pure (.slice (some a) (len + n) cap))
           | none => .fail "append"
         | _ => .fail "append"
       | none => .fail "append")
      ((aFirst s (.slice base len cap)).bind fun p => apGrow s by' zl len n p.2 new)))
def apT (P : Program) (t tx : TypeId) : Option (Nat × Nat × Nat) :=
  match P.underlying t, P.underlying tx with
  | some (.slice _), some (.int _) => none
  | some (.slice e), some _ => match P.info? e, zeroOf P e with
    | some i, some z => some (i.size, i.bytes, z.cells.toList.length)
    | _, _ => none
  | _, _ => none
def apQ (k : Option (Nat × Nat × Nat)) (s x : Value) (fb : AP ANext) : AP ANext := match k, s with
  | some (sz, by', zl), .slice base len cap => ((aFirst sz x).bind fun p => apTo sz by' zl base len cap p.1 p.2).bind fun v => .pure (.value v)
  | some _, _ => .fail "append"
  | none, _ => fb
@[go_sem] theorem bltQ_append {t tx : TypeId} {s x : Value} : bltQ P .append [t, tx] [s, x] = apQ (apT P t tx) s x ((aAppend P [t, tx] [s, x]).bind fun v => .pure (.value v)) := by
  show (aAppend P [t, tx] [s, x]).bind _ = _
  cases hk : apT P t tx with
  | none => rfl
  | some k =>
    unfold apT at hk
    split at hk
    · simp at hk
    · rename_i e d hni h1 h2
      split at hk
      · rename_i i z hi hz
        simp only [Option.some.injEq] at hk
        subst hk
        unfold aAppend apQ
        simp only [h1, h2]
        cases d with
        | int k => exact absurd rfl (hni k)
        | _ => cases s <;> first | rfl | simp only [hi, hz]; rfl
      · simp at hk
    · simp at hk
def apNil (s by' zl n : Nat) (new : List Value) : AP ANext := (apTo s by' zl none 0 0 n new).bind fun v => .pure (.value v)
end ops
end Go.Am
