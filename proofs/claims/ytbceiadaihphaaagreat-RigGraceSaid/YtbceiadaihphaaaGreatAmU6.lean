/-
  A part of the proof: contracts of inner functions.
-/
import Derived.Test.YtbceiadaihphaaaGreatAmX6
import Derived.Test.YtbceiadaihphaaaGreatAmX7
/-
 The abstract machine, for proofs with variables: building, appending, slicing; what simp needs besides.
-/
set_option linter.unusedSimpArgs false
set_option linter.unusedVariables false
namespace Go.Am
attribute [go_sem] List.all_cons List.all_nil Bool.and_true Bool.true_and Bool.and_false Bool.false_and Bool.or_true Bool.true_or Bool.or_false Bool.false_or Bool.not_true Bool.not_false
 Option.map_some Option.map_none List.getElem?_cons_zero List.getElem?_cons_succ List.getElem?_nil Option.getD_some List.map_cons List.map_nil List.nil_append List.cons_append List.append_nil
 List.length_cons List.length_nil List.set_cons_zero List.set_cons_succ List.drop_zero List.drop_succ_cons List.take_zero List.take_succ_cons List.drop_nil List.take_nil List.isEmpty_cons List.isEmpty_nil
 cond_true cond_false true_and and_true Option.isNone_some Option.isNone_none Bool.xor_false Bool.xor_true Bool.false_xor Bool.true_xor
 Nat.zero_add Nat.add_zero Nat.mul_one Nat.zero_mul Nat.one_mul List.length_append List.length_map List.append_assoc
 decide_true decide_false eq_self ne_eq not_true_eq_false not_false_eq_true
@[go_sem] theorem arr_toList (l : List Value) : (⟨l⟩ : Array Value).toList = l := rfl
@[go_sem] theorem arrO_toList (l : List Operand) : (⟨l⟩ : Array Operand).toList = l := rfl
@[go_sem] theorem arrP_toList (l : List (Nat × Operand)) : (⟨l⟩ : Array (Nat × Operand)).toList = l := rfl
@[go_sem] theorem arrT_toList (l : List TypeId) : (⟨l⟩ : Array TypeId).toList = l := rfl
@[go_sem] theorem arrOp_toList (l : List Oper) : (⟨l⟩ : Array Oper).toList = l := rfl
@[go_sem] theorem arrR_toList (l : List ResultVar) : (⟨l⟩ : Array ResultVar).toList = l := rfl
@[go_sem] theorem arrO_append (l l' : List Operand) : (⟨l⟩ : Array Operand) ++ (⟨l'⟩ : Array Operand) = ⟨l ++ l'⟩ := by simp
@[go_sem] theorem opt_some_arr (x : Operand) : (some x).toArray = #[x] := rfl
@[go_sem] theorem opt_none_arr : (none : Option Operand).toArray = #[] := rfl
@[go_sem] theorem call_operands {f : Operand} {as : Array Operand} {ts : Array TypeId} : (⟨.value f, as, ts⟩ : Call).operands = #[f] ++ as := rfl
@[go_sem] theorem call_operands' {b : Builtin} {as : Array Operand} {ts : Array TypeId} : (⟨.builtin b, as, ts⟩ : Call).operands = as := by simp [Call.operands]
def optCons (o : Option Value) (r : Option (List Value)) : Option (List Value) := match o, r with
 | some v, some l => some (v :: l)
 | _, _ => none
@[go_sem] theorem optCons_some {v : Value} {l : List Value} : optCons (some v) (some l) = some (v :: l) := rfl
section
variable {P : Program} {m : Tm} {h : PT ABlk}
@[go_sem] theorem resV_nil : resV P m h [] = some [] := rfl
@[go_sem] theorem resV_tmp {t : Tmp} {r : List ResultVar} : resV P m h (.tmp t :: r) = optCons (some (m.get t)) (resV P m h r) := by
 rw [resV]; cases resV P m h r <;> rfl
@[go_sem] theorem resV_cell {a : Tmp} {t : TypeId} {r : List ResultVar} : resV P m h (.cell a t :: r) = optCons (ldO P t (m.get a) h) (resV P m h r) := by
 rw [resV]
 cases ldO P t (m.get a) h with
 | none => rfl
 | some v => cases resV P m h r <;> rfl
def ldQ (g : Option Bool) (s : Option Nat) (off : Nat) (b : Option ABlk) : Option Value := match g, s, b with
 | some true, some s, some (.cells c _) => (readCells c off s).map fun l => .agg ⟨l⟩
 | some false, some _, some (.cells c _) => c.get off
 | _, _, _ => none
@[go_sem] theorem ldO_ptr {t : TypeId} {b off : Nat} {sp : Option Nat} : ldO P t (.pointer (some ⟨b, off, sp⟩)) h = ldQ (agT P t) (szT P t) off (h.get b) := by
 unfold ldO aLoad ldQ agT szT
 cases P.info? t with
 | none => cases P.underlying t with
  | none => rfl
  | some u => simp only [Option.map_some, Option.map_none]; cases isAgg u <;> rfl
 | some i =>
  cases P.underlying t with
  | none => rfl
  | some u =>
   simp only [AP.run, Option.map_some, show ∀ m, (S0 h m).heap = h from fun _ => rfl]
   cases h.get b with
   | none => cases isAgg u <;> rfl
   | some B =>
    simp only [show Nat.blt b 0 = false from rfl, cond_false]
    cases B with
    | cells c ro =>
     cases isAgg u with
     | false => simp only [cond_false]; cases c.get off <;> rfl
     | true => simp only [cond_true]; cases readCells c off i.size <;> rfl
    | _ => cases isAgg u <;> rfl
@[go_sem] theorem ldQ_N {s off : Nat} {L : List Value} {ro : Bool} : ldQ (some true) (some s) off (some (.cells (PT.ofList .leaf 0 L) ro)) = cond (Nat.ble (off + s) L.length || Nat.beq s 0) (some (.agg ⟨(L.drop off).take s⟩)) none := by
 simp only [ldQ, readCells_row]; cases (Nat.ble (off + s) L.length || Nat.beq s 0) <;> rfl
@[go_sem] theorem oneOf_one {v : Value} : oneOf [v] = v := rfl
@[go_sem] theorem oneOf_two {v w : Value} {l : List Value} : oneOf (v :: w :: l) = .tuple ⟨v :: w :: l⟩ := rfl
end
@[go_sem] theorem tabO_nil {f : FuncId} {args : List Value} : tabO [] f args = none := rfl
@[go_sem] theorem tabO_cons {g f : FuncId} {s : List Value → Option (AP Value)} {l : Tab} {args : List Value} : tabO ((g, s) :: l) f args = cond (Nat.beq f g) (s args) (tabO l f args) := rfl
@[go_sem] theorem meets_nil {b : List Nat} : meets [] b = false := rfl
@[go_sem] theorem meets_cons {x : Nat} {a b : List Nat} : meets (x :: a) b = (b.any (Nat.beq x) || meets a b) := rfl
attribute [go_sem] List.any_cons List.any_nil List.reverse_cons List.reverse_nil clash
@[go_sem] theorem meetsRange_nil {lo hi : Nat} : meetsRange [] lo hi = false := rfl
@[go_sem] theorem meetsRange_cons {x lo hi : Nat} {a : List Nat} : meetsRange (x :: a) lo hi = (Nat.ble lo x && Nat.blt x hi || meetsRange a lo hi) := rfl
@[go_sem] theorem footsOk_nil {fs : List Foot} : footsOk fs [] = true := rfl
def clashO (f g : Option Foot) : Bool := match f, g with
 | some f, some g => !clash f g
 | _, _ => false
@[go_sem] theorem footsOk_cons {fs : List Foot} {i j : Nat} {L : List (Nat × Nat)} : footsOk fs ((i, j) :: L) = (clashO fs[i]? fs[j]? && footsOk fs L) := rfl
@[go_sem] theorem clashO_some {f g : Foot} : clashO (some f) (some g) = !clash f g := rfl
section ops
variable {P : Program} {ρ : Operand → Value} {d : Option Tmp} {ty : TypeId} {pos : String} {af : Array Edge} {g : Option (Nat × Bool)}
def fillQ (pl : Option (Nat × Nat)) (cells vs : List Value) : Option (List Value) := match pl with
 | some (off, size) => cond (Nat.beq vs.length size && Nat.ble (off + vs.length) cells.length) (some (setRange cells off vs)) none
 | none => none
def fillN (place : Nat → Option (Nat × Nat)) (c : Option (List Value)) (r : List (Nat × Value)) : Option (List Value) := match c with
 | some c => fillL place c r
 | none => none
@[go_sem] theorem fillL_nil {place : Nat → Option (Nat × Nat)} {cells : List Value} : fillL place cells [] = some cells := rfl
@[go_sem] theorem fillL_cons {place : Nat → Option (Nat × Nat)} {cells : List Value} {i : Nat} {v : Value} {r : List (Nat × Value)} : fillL place cells ((i, v) :: r) = fillN place (fillQ (place i) cells v.cells.toList) r := by
 rw [fillL]; unfold fillQ
 cases place i with
 | none => rfl
 | some p =>
  obtain ⟨off, size⟩ := p
  simp only
  cases (Nat.beq v.cells.toList.length size && Nat.ble (off + v.cells.toList.length) cells.length) <;> rfl
@[go_sem] theorem fillQ_some {off size : Nat} {cells vs : List Value} : fillQ (some (off, size)) cells vs = cond (Nat.beq vs.length size && Nat.ble (off + vs.length) cells.length) (some (setRange cells off vs)) none := rfl
@[go_sem] theorem fillN_some {place : Nat → Option (Nat × Nat)} {c : List Value} {r : List (Nat × Value)} : fillN place (some c) r = fillL place c r := rfl
@[go_sem] theorem setRange_eq {l vs : List Value} {off : Nat} : setRange l off vs = l.take off ++ vs ++ l.drop (off + vs.length) := rfl
attribute [go_sem] rep
def bdT (P : Program) (t : TypeId) : Option (List Value × (Nat → Option (Nat × Nat))) :=
 match zeroOf P t, P.underlying t with
 | some z, some (.struct fs) => (fieldPlaces P fs.toList).map fun ps => (z.cells.toList, (ps[·]?))
 | some z, some (.array _ e) => (P.info? e).map fun i => (z.cells.toList, fun j => some (j * i.size, i.size))
 | _, _ => none
def aggQ (w : String) (o : Option (List Value)) : AP ANext := match o with
 | some l => .pure (.value (.agg ⟨l⟩))
 | none => .fail w
@[go_sem] theorem aggQ_some {w : String} {l : List Value} : aggQ w (some l) = .pure (.value (.agg ⟨l⟩)) := rfl
def bdQ (k : Option (List Value × (Nat → Option (Nat × Nat)))) (parts : List (Nat × Value)) : AP ANext := match k with
 | some (z, pl) => aggQ "build" (fillL pl z parts)
 | none => .fail "build"
@[go_sem] theorem bdQ_some {z : List Value} {pl : Nat → Option (Nat × Nat)} {parts : List (Nat × Value)} : bdQ (some (z, pl)) parts = aggQ "build" (fillL pl z parts) := rfl
@[go_sem] theorem aOp_build {t : TypeId} {ps : Array (Nat × Operand)} : aOp P ρ ⟨d, .build t ps, ty, pos, af, g⟩ = bdQ (bdT P t) (ps.toList.map fun p => (p.1, ρ p.2)) := by
 show (aBuild P t _).bind _ = _
 unfold aBuild bdQ bdT
 generalize ps.toList.map (fun p => (p.1, ρ p.2)) = l
 cases zeroOf P t with
 | none => rfl
 | some z =>
  cases P.underlying t with
  | none => rfl
  | some u =>
   cases u with
   | struct fs =>
    simp only
    cases fieldPlaces P fs.toList with
    | none => rfl
    | some ps => simp only [Option.map_some]; cases fillL (ps[·]?) z.cells.toList l <;> rfl
   | array len e =>
    simp only
    cases P.info? e with
    | none => rfl
    | some i => simp only [Option.map_some]; cases fillL (fun j => some (j * i.size, i.size)) z.cells.toList l <;> rfl
   | _ => rfl
def elT (P : Program) (t : TypeId) : Option (Nat × Nat × List Value) :=
 match P.underlying t with
 | some (.slice e) => match P.info? e, zeroOf P e with
  | some i, some z => some (i.size, i.bytes, z.cells.toList)
  | _, _ => none
 | _ => none
def rowQ (n : Nat) (o : Option (List Value)) : AP ANext := match o with
 | some l => .new (.cells (PT.ofList .leaf 0 l) false) fun id => .pure (.value (.slice (some ⟨id, 0, none⟩) n n))
 | none => .fail "buildSlice"
@[go_sem] theorem rowQ_some {n : Nat} {l : List Value} : rowQ n (some l) = .new (.cells (PT.ofList .leaf 0 l) false) fun id => .pure (.value (.slice (some ⟨id, 0, none⟩) n n)) := rfl
def bsQ (k : Option (Nat × Nat × List Value)) (n : Nat) (parts : List (Nat × Value)) : AP ANext := match k with
 | some (s, _, z) => cond (Nat.ble (n * s) 16777216 && Nat.beq z.length s && Nat.blt 0 s) (rowQ n (fillL (fun j => some (j * s, s)) (rep z n) parts)) (.fail "buildSlice")
 | none => .fail "buildSlice"
@[go_sem] theorem bsQ_some {s b n : Nat} {z : List Value} {parts : List (Nat × Value)} : bsQ (some (s, b, z)) n parts = cond (Nat.ble (n * s) 16777216 && Nat.beq z.length s && Nat.blt 0 s) (rowQ n (fillL (fun j => some (j * s, s)) (rep z n) parts)) (.fail "buildSlice") := rfl
@[go_sem] theorem aOp_buildSlice {t : TypeId} {n : Nat} {ps : Array (Nat × Operand)} : aOp P ρ ⟨d, .buildSlice t n ps, ty, pos, af, g⟩ = bsQ (elT P t) n (ps.toList.map fun p => (p.1, ρ p.2)) := by
 show (aBuildSlice P t n _).bind _ = _
 unfold aBuildSlice bsQ elT
 generalize ps.toList.map (fun p => (p.1, ρ p.2)) = l
 cases P.underlying t with
 | none => rfl
 | some u =>
  cases u with
  | slice e =>
   simp only
   cases P.info? e with
   | none => rfl
   | some i =>
    cases zeroOf P e with
    | none => rfl
    | some z =>
     simp only
     cases (Nat.ble (n * i.size) 16777216 && Nat.beq z.cells.toList.length i.size && Nat.blt 0 i.size) with
     | false => rfl
     | true =>
      simp only [cond_true]
      cases fillL (fun j => some (j * i.size, i.size)) (rep z.cells.toList n) l <;> rfl
  | _ => rfl
def msQ (k : Option (Nat × Nat × List Value)) (l c : Option Nat) : AP ANext := match k, l, c with
 | some (s, by', z), some l, some c => cond (Nat.ble l c && Nat.ble c 1048576 && Nat.ble by' 65536 && Nat.beq z.length s && Nat.blt 0 s)
   (.new (.cells (PT.ofList .leaf 0 (rep z c)) false) fun id => .pure (.value (.slice (some ⟨id, 0, none⟩) l c))) (.fail "makeSlice")
 | _, _, _ => .fail "makeSlice"
@[go_sem] theorem msQ_some {s by' l c : Nat} {z : List Value} : msQ (some (s, by', z)) (some l) (some c) = cond (Nat.ble l c && Nat.ble c 1048576 && Nat.ble by' 65536 && Nat.beq z.length s && Nat.blt 0 s)
   (.new (.cells (PT.ofList .leaf 0 (rep z c)) false) fun id => .pure (.value (.slice (some ⟨id, 0, none⟩) l c))) (.fail "makeSlice") := rfl
@[go_sem] theorem aOp_makeSlice {t : TypeId} {l c : Operand} : aOp P ρ ⟨d, .makeSlice t l c, ty, pos, af, g⟩ = msQ (elT P t) (asNat (ρ l)) (asNat (ρ c)) := by
 show (aMakeSlice P t (ρ l) (ρ c)).bind _ = _
 unfold aMakeSlice msQ elT
 generalize asNat (ρ l) = x
 generalize asNat (ρ c) = y
 cases P.underlying t with
 | none => rfl
 | some u =>
  cases u with
  | slice e =>
   cases x with
   | none => dsimp only; cases P.info? e <;> cases zeroOf P e <;> rfl
   | some x => cases y with
    | none => dsimp only; cases P.info? e <;> cases zeroOf P e <;> rfl
    | some y =>
     dsimp only
     cases P.info? e with
     | none => cases zeroOf P e <;> rfl
     | some i => cases zeroOf P e with
      | none => rfl
      | some z =>
       dsimp only
       cases (Nat.ble x y && Nat.ble y 1048576 && Nat.ble i.bytes 65536 && Nat.beq z.cells.toList.length i.size && Nat.blt 0 i.size) <;> rfl
  | _ => rfl
def apGrow (s by' zl len n : Nat) (old new : List Value) : AP Value :=
 cond (Nat.ble (len + n) 1048576 && Nat.ble by' 65536 && Nat.beq zl s && Nat.beq old.length (len * s) && Nat.beq new.length (n * s))
  (.new (.cells (PT.ofList .leaf 0 (old ++ new)) false) fun id => .pure (.slice (some ⟨id, 0, none⟩) (len + n) (capInf + s)))
  (.fail "append")
def apTo (s by' zl : Nat) (base : Option Addr) (len cap n : Nat) (new : List Value) : AP Value :=
 cond (Nat.beq n 0 && Nat.ble len cap && new.isEmpty) (.pure (.slice base len cap))
 (cond (Nat.ble capInf cap)
  (match base with
   | some a => cond (Nat.beq cap (capInf + s) && new.all oneCell)
    (.get a.block fun
     | .cells c false => match readCells c a.off (len * s) with
      | some old => .kill a.block (apGrow s by' zl len n old new)
      | none => .fail "append"
     | _ => .fail "append") (.fail "append")
   | none => .fail "append")
  (cond (Nat.ble (len + n) cap)
   (match base with
    | some a => .get a.block fun
     | .cells c false => match writeCells c (a.off + len * s) new with
      | some c' => .set a.block (.cells c' false) (.pure (.slice (some a) (len + n) cap))
      | none => .fail "append"
     | _ => .fail "append"
    | none => .fail "append")
   ((aFirst s (.slice base len cap)).bind fun p => apGrow s by' zl len n p.2 new)))
def apT (P : Program) (t tx : TypeId) : Option (Nat × Nat × Nat) :=
 match P.underlying t, P.underlying tx with
 | some (.slice _), some (.int _) => none
 | some (.slice e), some _ => match P.info? e, zeroOf P e with
  | some i, some z => some (i.size, i.bytes, z.cells.toList.length)
  | _, _ => none
 | _, _ => none
def apQ (k : Option (Nat × Nat × Nat)) (s x : Value) (fb : AP ANext) : AP ANext := match k, s with
 | some (sz, by', zl), .slice base len cap => ((aFirst sz x).bind fun p => apTo sz by' zl base len cap p.1 p.2).bind fun v => .pure (.value v)
 | some _, _ => .fail "append"
 | none, _ => fb
@[go_sem] theorem bltQ_append {t tx : TypeId} {s x : Value} : bltQ P .append [t, tx] [s, x] = apQ (apT P t tx) s x ((aAppend P [t, tx] [s, x]).bind fun v => .pure (.value v)) := by
 show (aAppend P [t, tx] [s, x]).bind _ = _
 cases hk : apT P t tx with
 | none => rfl
 | some k =>
  unfold apT at hk
  split at hk
  ·simp at hk
  ·rename_i e d hni h1 h2
   split at hk
   ·rename_i i z hi hz
    simp only [Option.some.injEq] at hk
    subst hk
    unfold aAppend apQ
    simp only [h1, h2]
    cases d with
    | int k => exact absurd rfl (hni k)
    | _ => cases s <;> first | rfl | simp only [hi, hz]; rfl
   ·simp at hk
  ·simp at hk
end ops
end Go.Am
/-
 The abstract machine, for proofs with variables: appending, slicing, comparing: worked out.
-/
set_option linter.unusedSimpArgs false
set_option linter.unusedVariables false
namespace Go.Am
theorem EvB_run {P : Program} {O : Over} {f : FuncId} {fn : Func} {c : Code} {args : List Value} {h : PT ABlk} {n N : Nat} {R : Value → PT ABlk → Nat → Prop} (hf : P.funcs[f]? = some fn) (hb : fn.body = some c) (hN : args.length + (fn.ntmps - args.length) = N)
  (H : ∀ z : Zx, z.P = P → z.O = O → z.ro = none → z.N = N → z.Q = Fin P fn.results.toList R → EvK z c [] ⟨N, PT.ofList .leaf 0 args, []⟩ h n) : EvB P O f args h n R := by
 subst hN; exact EvB_of hf hb H
@[go_sem] theorem Fin_ret {P : Program} {rs : List ResultVar} {R : Value → PT ABlk → Nat → Prop} {m : Tm} {h : PT ABlk} {n : Nat} : Fin P rs R .ret m h n ↔ m.dfs = [] ∧ ∃ l, resV P m h rs = some l ∧ R (oneOf l) h n := by simp [Fin]
@[go_sem] theorem Fin_normal {P : Program} {rs : List ResultVar} {R : Value → PT ABlk → Nat → Prop} {m : Tm} {h : PT ABlk} {n : Nat} : Fin P rs R .normal m h n ↔ m.dfs = [] ∧ ∃ l, resV P m h rs = some l ∧ R (oneOf l) h n := by simp [Fin]
attribute [go_sem] Option.some.injEq exists_eq_left'
@[go_sem] theorem not_decide' {p : Prop} [Decidable p] : (!decide p) = decide (¬ p) := by by_cases h : p <;> simp [h]
@[go_sem] theorem and_decide' {p q : Prop} [Decidable p] [Decidable q] : (decide p && decide q) = decide (p ∧ q) := by by_cases h : p <;> by_cases k : q <;> simp [h, k]
section
variable {z : Zx} {K : List KF} {m : Tm} {h : PT ABlk} {n : Nat} {p : Prop} [Decidable p]
theorem EvC_ndec {a b : Code} (h1 : ¬ p → EvK z a K m h n) (h2 : p → EvK z b K m h n) : EvC z (.bool (decide (¬ p))) a b K m h n := by
 by_cases hp : p
 ·simpa [hp, EvC_false] using h2 hp
 ·simpa [hp, EvC_true] using h1 hp
theorem EvC_nbool {a b : Code} {t : Bool} (h1 : t = false → EvK z a K m h n) (h2 : t = true → EvK z b K m h n) : EvC z (.bool !t) a b K m h n := by
 cases t
 ·exact EvC_true.2 (h1 rfl)
 ·exact EvC_false.2 (h2 rfl)
theorem EvG_bool {o : Oper} {ops r : List Oper} {t : Bool} (h1 : t = true → EvG z true o ops r K m h n) (h2 : t = false → EvG z false o ops r K m h n) : EvG z t o ops r K m h n := by
 cases t <;> first | exact h1 rfl | exact h2 rfl
theorem EvG_nbool {o : Oper} {ops r : List Oper} {t : Bool} (h1 : t = false → EvG z true o ops r K m h n) (h2 : t = true → EvG z false o ops r K m h n) : EvG z (!t) o ops r K m h n := by
 cases t <;> first | exact h1 rfl | exact h2 rfl
theorem EvH_bool {L : List (Nat × Nat)} {o : Oper} {ops r : List Oper} {fs : List Foot} {t : Bool} (h1 : t = true → EvH z L true o ops r K m h n fs) (h2 : t = false → EvH z L false o ops r K m h n fs) : EvH z L t o ops r K m h n fs := by
 cases t <;> first | exact h1 rfl | exact h2 rfl
theorem EvH_nbool {L : List (Nat × Nat)} {o : Oper} {ops r : List Oper} {fs : List Foot} {t : Bool} (h1 : t = false → EvH z L true o ops r K m h n fs) (h2 : t = true → EvH z L false o ops r K m h n fs) : EvH z L (!t) o ops r K m h n fs := by
 cases t <;> first | exact h1 rfl | exact h2 rfl
theorem EvG_ndec {o : Oper} {ops r : List Oper} (h1 : ¬ p → EvG z true o ops r K m h n) (h2 : p → EvG z false o ops r K m h n) : EvG z (decide (¬ p)) o ops r K m h n := by
 by_cases hp : p
 ·simpa [hp] using h2 hp
 ·simpa [hp] using h1 hp
theorem EvH_ndec {L : List (Nat × Nat)} {o : Oper} {ops r : List Oper} {fs : List Foot} (h1 : ¬ p → EvH z L true o ops r K m h n fs) (h2 : p → EvH z L false o ops r K m h n fs) : EvH z L (decide (¬ p)) o ops r K m h n fs := by
 by_cases hp : p
 ·simpa [hp] using h2 hp
 ·simpa [hp] using h1 hp
end
attribute [go_sem] not_true_eq_false not_false_eq_true false_and and_false true_or or_true false_or or_false Decidable.not_not
section ops
variable {P : Program} {ρ : Operand → Value} {d : Option Tmp} {ty : TypeId} {pos : String} {af : Array Edge} {g : Option (Nat × Bool)}
@[go_sem] theorem apQ_some {sz by' zl len cap : Nat} {base : Option Addr} {x : Value} {fb : AP ANext} : apQ (some (sz, by', zl)) (.slice base len cap) x fb = ((aFirst sz x).bind fun p => apTo sz by' zl base len cap p.1 p.2).bind fun v => .pure (.value v) := rfl
@[go_sem] theorem aFirst_nil {sz n c : Nat} : aFirst sz (.slice none n c) = .pure (n, []) := rfl
def fsB (off k n : Nat) : ABlk → AP (Nat × List Value)
 | .cells c _ => match readCells c off k with | some l => .pure (n, l) | none => .fail "cells"
 | _ => .fail "cells"
@[go_sem] theorem aFirst_row {sz b off n c : Nat} {sp : Option Nat} : aFirst sz (.slice (some ⟨b, off, sp⟩) n c) = .get b (fsB off (n * sz) n) := rfl
@[go_sem] theorem fsB_row {off k n : Nat} {L : List Value} {ro : Bool} : fsB off k n (.cells (PT.ofList .leaf 0 L) ro) = cond (Nat.ble (off + k) L.length || Nat.beq k 0) (.pure (n, (L.drop off).take k)) (.fail "cells") := by
 simp only [fsB, readCells_row]
 cases (Nat.ble (off + k) L.length || Nat.beq k 0) <;> rfl
@[go_sem] theorem apTo_none {s by' zl len cap n : Nat} {new : List Value} : apTo s by' zl none len cap n new = cond (Nat.beq n 0 && Nat.ble len cap && new.isEmpty) (.pure (.slice none len cap)) (cond (Nat.ble capInf cap) (.fail "append") (cond (Nat.ble (len + n) cap) (.fail "append") (apGrow s by' zl len n [] new))) := rfl
def apB1 (b off s by' zl len n : Nat) (new : List Value) : ABlk → AP Value
 | .cells c false => match readCells c off (len * s) with
  | some old => .kill b (apGrow s by' zl len n old new)
  | none => .fail "append"
 | _ => .fail "append"
def apB2 (b off s len cap n : Nat) (sp : Option Nat) (new : List Value) : ABlk → AP Value
 | .cells c false => match writeCells c (off + len * s) new with
  | some c' => .set b (.cells c' false) (.pure (.slice (some ⟨b, off, sp⟩) (len + n) cap))
  | none => .fail "append"
 | _ => .fail "append"
@[go_sem] theorem apTo_some {s by' zl len cap n b off : Nat} {sp : Option Nat} {new : List Value} : apTo s by' zl (some ⟨b, off, sp⟩) len cap n new = cond (Nat.beq n 0 && Nat.ble len cap && new.isEmpty) (.pure (.slice (some ⟨b, off, sp⟩) len cap))
  (cond (Nat.ble capInf cap) (cond (Nat.beq cap (capInf + s) && new.all oneCell) (.get b (apB1 b off s by' zl len n new)) (.fail "append"))
   (cond (Nat.ble (len + n) cap) (.get b (apB2 b off s len cap n sp new)) ((AP.get b (fsB off (len * s) len)).bind fun p => apGrow s by' zl len n p.2 new))) := rfl
@[go_sem] theorem apB1_row {b off s by' zl len n : Nat} {new L : List Value} : apB1 b off s by' zl len n new (.cells (PT.ofList .leaf 0 L) false) = cond (Nat.ble (off + len * s) L.length || Nat.beq (len * s) 0) (.kill b (apGrow s by' zl len n ((L.drop off).take (len * s)) new)) (.fail "append") := by
 simp only [apB1, readCells_row]
 cases (Nat.ble (off + len * s) L.length || Nat.beq (len * s) 0) <;> rfl
@[go_sem] theorem apB2_row {b off s len cap n : Nat} {sp : Option Nat} {new L : List Value} : apB2 b off s len cap n sp new (.cells (PT.ofList .leaf 0 L) false) = cond ((Nat.ble (off + len * s + new.length) L.length || new.isEmpty) && new.all oneCell) (.set b (.cells (PT.ofList .leaf 0 (putL L (off + len * s) new)) false) (.pure (.slice (some ⟨b, off, sp⟩) (len + n) cap))) (.fail "append") := by
 simp only [apB2, writeCells_row]
 cases ((Nat.ble (off + len * s + new.length) L.length || new.isEmpty) && new.all oneCell) <;> rfl
@[go_sem] theorem apGrow_eq {s by' zl len n : Nat} {old new : List Value} : apGrow s by' zl len n old new = cond (Nat.ble (len + n) 1048576 && Nat.ble by' 65536 && Nat.beq zl s && Nat.beq old.length (len * s) && Nat.beq new.length (n * s))
  (.new (.cells (PT.ofList .leaf 0 (old ++ new)) false) fun id => .pure (.slice (some ⟨id, 0, none⟩) (len + n) (capInf + s))) (.fail "append") := rfl
@[go_sem] theorem ble_capInf {c : Nat} (h : c < 4611686018427387904) : Nat.ble capInf c = false := ble_false (by unfold capInf; omega)
@[go_sem] theorem ble_capInf' {c : Nat} : Nat.ble capInf (capInf + c) = true := ble_true (by omega)
@[go_sem] theorem take_map_self {α : Type} {f : α → Value} {l : List α} : (l.map f).take l.length = l.map f := by rw [List.take_of_length_le (by simp)]
def snQ (u : Option TypeDesc) (neg : Bool) (x : Option Addr) : AP ANext := match u with
 | some (.slice _) => .pure (.value (.bool (x.isNone ^^ neg)))
 | _ => .fail "equal"
section
variable {t : TypeId} {cx cy : Bool}
theorem aEqual_snil {D : Nat} {x : Option Addr} {n c n' c' : Nat} : aEqual P (D + 1) t (.slice x n c) (.slice none n' c') = match P.underlying t with | some (.slice _) => .pure x.isNone | _ => .fail "equal" := by
 unfold aEqual
 cases P.underlying t with
 | none => cases x <;> rfl
 | some u => cases u <;> cases x <;> rfl
@[go_sem] theorem binV_eq_snil {x : Option Addr} {n c n' c' : Nat} : binV P .eql t cx cy (.slice x n c) (.slice none n' c') = snQ (P.underlying t) false x := by
 have : binV P .eql t cx cy (.slice x n c) (.slice none n' c') = AP.bind ((aEqual P (11 + 1) t (.slice x n c) (.slice none n' c')).bind fun b => .pure (.bool b)) fun v => .pure (.value v) := by
  simp only [binV, aBinOp, eqGuardOk, cond_true]
 rw [this, aEqual_snil]; unfold snQ
 cases P.underlying t with
 | none => rfl
 | some u => cases u <;> first | rfl | (cases x <;> rfl)
@[go_sem] theorem binV_ne_snil {x : Option Addr} {n c n' c' : Nat} : binV P .neq t cx cy (.slice x n c) (.slice none n' c') = snQ (P.underlying t) true x := by
 have : binV P .neq t cx cy (.slice x n c) (.slice none n' c') = AP.bind ((aEqual P (11 + 1) t (.slice x n c) (.slice none n' c')).bind fun b => .pure (.bool !b)) fun v => .pure (.value v) := by
  simp only [binV, aBinOp, eqGuardOk, cond_true]
 rw [this, aEqual_snil]; unfold snQ
 cases P.underlying t with
 | none => rfl
 | some u => cases u <;> first | rfl | (cases x <;> rfl)
@[go_sem] theorem snQ_slice {e : TypeId} {neg : Bool} {x : Option Addr} : snQ (some (.slice e)) neg x = .pure (.value (.bool (x.isNone ^^ neg))) := rfl
theorem aEqual_bool {D : Nat} {a b : Bool} : aEqual P (D + 1) t (.bool a) (.bool b) = match P.underlying t with | some .bool => .pure (a == b) | _ => .fail "equal" := by
 unfold aEqual
 cases P.underlying t with
 | none => rfl
 | some u => cases u <;> rfl
def beqQ (u : Option TypeDesc) (neg : Bool) (a b : Bool) : AP ANext := match u with
 | some .bool => .pure (.value (.bool ((a == b) ^^ neg)))
 | _ => .fail "equal"
@[go_sem] theorem binV_eq_bool {a b : Bool} : binV P .eql t cx cy (.bool a) (.bool b) = beqQ (P.underlying t) false a b := by
 have : binV P .eql t cx cy (.bool a) (.bool b) = AP.bind ((aEqual P (11 + 1) t (.bool a) (.bool b)).bind fun b => .pure (.bool b)) fun v => .pure (.value v) := by
  simp only [binV, aBinOp, eqGuardOk, cond_true]
 rw [this, aEqual_bool]; unfold beqQ
 cases P.underlying t with
 | none => rfl
 | some u => cases u <;> first | rfl | (cases a <;> cases b <;> rfl)
@[go_sem] theorem binV_ne_bool {a b : Bool} : binV P .neq t cx cy (.bool a) (.bool b) = beqQ (P.underlying t) true a b := by
 have : binV P .neq t cx cy (.bool a) (.bool b) = AP.bind ((aEqual P (11 + 1) t (.bool a) (.bool b)).bind fun b => .pure (.bool !b)) fun v => .pure (.value v) := by
  simp only [binV, aBinOp, eqGuardOk, cond_true]
 rw [this, aEqual_bool]; unfold beqQ
 cases P.underlying t with
 | none => rfl
 | some u => cases u <;> first | rfl | (cases a <;> cases b <;> rfl)
@[go_sem] theorem beqQ_bool {neg a b : Bool} : beqQ (some .bool) neg a b = .pure (.value (.bool ((a == b) ^^ neg))) := rfl
end
def slV (P : Program) (t : TypeId) (x : Value) (lo hi mx : Option Value) : AP ANext := (aSlice P t x lo hi mx).bind fun v => .pure (.value v)
@[go_sem] theorem aOp_slice {t : TypeId} {x : Operand} {lo hi mx : Option Operand} : aOp P ρ ⟨d, .slice t x lo hi mx, ty, pos, af, g⟩ = slV P t (ρ x) (lo.map ρ) (hi.map ρ) (mx.map ρ) := rfl
def slK (a : Addr) (s len cap : Nat) (lo hi : Option Nat) : AP ANext := match hi, lo with
 | some h, some l =>
  cond (Nat.ble l h && Nat.ble h (cond (Nat.ble capInf cap) len cap))
   (cond (Nat.ble capInf cap) (cond (Nat.beq cap (capInf + s)) (.pure (.value (.slice (some (aAdd a (l * s))) (h - l) cap))) (.fail "slice"))
    (.pure (.value (.slice (some (cond (Nat.beq cap l) a (aAdd a (l * s)))) (h - l) (cap - l))))) (.fail "slice")
 | _, _ => .fail "slice"
def slW (k : Option (Option Nat × Nat)) (a : Addr) (len cap : Nat) (lo hi : Option Value) : AP ANext := match k with
 | some (none, s) => slK a s len cap (boundOr 0 lo) (boundOr len hi)
 | _ => .fail "slice"
@[go_sem] theorem slV_slice {t : TypeId} {a : Addr} {len cap : Nat} {lo hi : Option Value} : slV P t (.slice (some a) len cap) lo hi none = slW (iaT P t) a len cap lo hi := by
 unfold slV aSlice slW iaT
 cases P.underlying t with
 | none => rfl
 | some u =>
  cases u with
  | slice e =>
   dsimp only
   cases P.info? e with
   | none => rfl
   | some i =>
    simp only [Option.map_some, aSliceFrom, slK]
    cases boundOr len hi with
    | none => rfl
    | some h => cases boundOr 0 lo with
     | none => rfl
     | some l =>
      dsimp only
      cases (Nat.ble l h && Nat.ble h (cond (Nat.ble capInf cap) len cap)) with
      | false => rfl
      | true =>
       simp only [cond_true]
       cases Nat.ble capInf cap with
       | false => rfl
       | true => simp only [cond_true]; cases Nat.beq cap (capInf + i.size) <;> rfl
  | array len e => dsimp only; cases P.info? e <;> rfl
  | _ => rfl
@[go_sem] theorem slW_some {s len cap : Nat} {a : Addr} {lo hi : Option Value} : slW (some (none, s)) a len cap lo hi = slK a s len cap (boundOr 0 lo) (boundOr len hi) := rfl
@[go_sem] theorem boundOr_none {n : Nat} : boundOr n none = some n := rfl
@[go_sem] theorem boundOr_some {n : Nat} {v : Value} : boundOr n (some v) = asNat v := rfl
@[go_sem] theorem slK_inf {b off s len l h : Nat} {sp : Option Nat} : slK ⟨b, off, sp⟩ s len (capInf + s) (some l) (some h) = cond (Nat.ble l h && Nat.ble h len) (.pure (.value (.slice (some ⟨b, off + l * s, none⟩) (h - l) (capInf + s)))) (.fail "slice") := by
 simp only [slK, ble_capInf', cond_true, beq_self, aAdd]
@[go_sem] theorem bltQ_min {ts : List TypeId} {k k' : IntKind} {a b : Int} : bltQ P .min ts [.int k a, .int k' b] = .pure (.value (.int k (if b < a then b else a))) := rfl
@[go_sem] theorem bltQ_max {ts : List TypeId} {k k' : IntKind} {a b : Int} : bltQ P .max ts [.int k a, .int k' b] = .pure (.value (.int k (if b > a then b else a))) := rfl
end ops
end Go.Am
/-
 The abstract machine, for proofs with variables: short names of the rules that split.
-/
set_option linter.unusedSimpArgs false
set_option linter.unusedVariables false
namespace Go.Am
section
variable {z : Zx} {K : List KF} {m : Tm} {h : PT ABlk} {n : Nat} {p : Prop} [Decidable p] {a b : Code} {o : Oper} {ops r : List Oper} {t : Bool} {L : List (Nat × Nat)} {fs : List Foot}
theorem xc1 (h1 : ¬ p → EvK z a K m h n) (h2 : p → EvK z b K m h n) : EvC z (.bool (decide (¬ p))) a b K m h n := EvC_ndec h1 h2
theorem xc2 (h1 : p → EvK z a K m h n) (h2 : ¬ p → EvK z b K m h n) : EvC z (.bool (decide p)) a b K m h n := EvC_dec h1 h2
theorem xc3 (h1 : t = false → EvK z a K m h n) (h2 : t = true → EvK z b K m h n) : EvC z (.bool !t) a b K m h n := EvC_nbool h1 h2
theorem xc4 (h1 : t = true → EvK z a K m h n) (h2 : t = false → EvK z b K m h n) : EvC z (.bool t) a b K m h n := EvC_bool h1 h2
theorem xg1 (h1 : ¬ p → EvG z true o ops r K m h n) (h2 : p → EvG z false o ops r K m h n) : EvG z (decide (¬ p)) o ops r K m h n := EvG_ndec h1 h2
theorem xg2 (h1 : p → EvG z true o ops r K m h n) (h2 : ¬ p → EvG z false o ops r K m h n) : EvG z (decide p) o ops r K m h n := EvG_dec h1 h2
theorem xg3 (h1 : t = false → EvG z true o ops r K m h n) (h2 : t = true → EvG z false o ops r K m h n) : EvG z (!t) o ops r K m h n := EvG_nbool h1 h2
theorem xg4 (h1 : t = true → EvG z true o ops r K m h n) (h2 : t = false → EvG z false o ops r K m h n) : EvG z t o ops r K m h n := EvG_bool h1 h2
theorem xh1 (h1 : ¬ p → EvH z L true o ops r K m h n fs) (h2 : p → EvH z L false o ops r K m h n fs) : EvH z L (decide (¬ p)) o ops r K m h n fs := EvH_ndec h1 h2
theorem xh2 (h1 : p → EvH z L true o ops r K m h n fs) (h2 : ¬ p → EvH z L false o ops r K m h n fs) : EvH z L (decide p) o ops r K m h n fs := EvH_dec h1 h2
theorem xh3 (h1 : t = false → EvH z L true o ops r K m h n fs) (h2 : t = true → EvH z L false o ops r K m h n fs) : EvH z L (!t) o ops r K m h n fs := EvH_nbool h1 h2
theorem xh4 (h1 : t = true → EvH z L true o ops r K m h n fs) (h2 : t = false → EvH z L false o ops r K m h n fs) : EvH z L t o ops r K m h n fs := EvH_bool h1 h2
end
end Go.Am
