/-
  The abstract machine: the operations' simulations, one by one: loads, stores, new blocks, addresses.
-/
import Derived.Test.YtbceiadaihphaaaGreatAmD
set_option linter.unusedSimpArgs false
set_option linter.unusedVariables false
namespace Go.Am
open Go.RowKit
section
variable {P : Program} {Γ : Emb} {W w : World} {h : PT ABlk} {n : Nat}
theorem run_und {t : TypeId} {d : TypeDesc} (h : P.underlying t = some d) (w : World) : (underlying t).run P w = .ok d w := run_underlying h w
theorem run_info {t : TypeId} {i : TypeInfo} (h : P.info? t = some i) (w : World) : (typeInfo t).run P w = .ok i w := by
 simp [typeInfo, h]
theorem run_size {t : TypeId} {i : TypeInfo} (h : P.info? t = some i) (w : World) : (sizeOf t).run P w = .ok i.size w := by
 simp [sizeOf, run_info h]
theorem run_agg {t : TypeId} {d : TypeDesc} (h : P.underlying t = some d) (w : World) : (Go.isAgg t).run P w = .ok (Am.isAgg d) w := by
 simp only [Go.isAgg, Sem.run_bind, run_und h, Result.andThen_ok]
 cases d <;> rfl
theorem zeroOf_spec {t : TypeId} {z : Value} (h : zeroOf P t = some z) : (∀ w, (zeroValue t).run P w = .ok z w) ∧ ∀ Γ, VRel Γ z z := by
 unfold zeroOf at h
 cases hi : P.info? t with
 | none => simp [hi] at h
 | some i =>
  simp only [hi] at h
  cases hz : i.zero with
  | none => simp [hz] at h
  | some z' =>
   simp only [hz] at h
   cases hf : flat 4 z' with
   | false => simp [hf] at h
   | true =>
    obtain rfl : z' = z := by simpa [hf] using h
    exact ⟨fun w => by simp [zeroValue, run_info hi, hz], fun Γ => flat_rel 4 _ hf⟩
theorem VRel.cells {v v' : Value} (h : VRel Γ v v') : VRels Γ v.cells.toList v'.cells.toList := by
 cases h <;> first
  | (rename_i h; exact h)
  | (refine .cons _ _ _ _ ?_ .nil; constructor <;> assumption)
theorem VRel.oneCell {v v' : Value} (h : VRel Γ v v') : oneCell v' = oneCell v := by cases h <;> rfl
theorem VRel.oneCell' {v v' : Value} (h : VRel Γ v v') (ho : Am.oneCell v = true) : v'.oneCell' = true := by cases h <;> first | rfl | simp [Am.oneCell] at ho
theorem readCells_spec : ∀ (m : Nat) (c : PT Value) (off : Nat) (l : List Value), readCells c off m = some l → l.length = m ∧ ∀ j v, l[j]? = some v → c.get (off + j) = some v
 | 0, c, off, l, h => by simp [readCells] at h; subst h; simp
 | m + 1, c, off, l, h => by
  simp only [readCells] at h
  split at h
  ·simp at h
  ·rename_i v hv
   split at h
   ·simp at h
   ·rename_i l' hl'
    obtain rfl : v :: l' = l := by simpa using h
    obtain ⟨h1, h2⟩ := readCells_spec m c (off + 1) l' hl'
    refine ⟨by simp [h1], fun j u hu => ?_⟩
    cases j with
    | zero => simp at hu; subst hu; exact hv
    | succ j => simp at hu; have := h2 j u hu; rwa [show off + 1 + j = off + (j + 1) by omega] at this
theorem exists_list : ∀ (l : List Value) (Q : Nat → Value → Prop), (∀ j v, l[j]? = some v → ∃ v', Q j v' ∧ VRel Γ v v') → ∃ l', VRels Γ l l' ∧ ∀ j v', l'[j]? = some v' → Q j v'
 | [], Q, _ => ⟨[], .nil, fun j v' h => by simp at h⟩
 | v :: l, Q, h => by
  obtain ⟨v', hq, hv⟩ := h 0 v rfl
  obtain ⟨l', hl, hq'⟩ := exists_list l (fun j => Q (j + 1)) fun j u hu => h (j + 1) u (by simpa using hu)
  refine ⟨v' :: l', .cons _ _ _ _ hv hl, fun j u hu => ?_⟩
  cases j with
  | zero => simp at hu; subst hu; exact hq
  | succ j => simp at hu; exact hq' j u hu
theorem readCells_sim (hS : SRel Γ W h w) {i : Nat} {c : PT Value} {ro : Bool} (hb : h.get i = some (.cells c ro)) {a a' : Addr} (ha : Γ.addr a a') (hi : a.block = i) {m : Nat} {l : List Value}
  (hr : readCells c a.off m = some l) : ∃ l', VRels Γ l l' ∧ (loadCells a' m).run P w = .ok ⟨l'⟩ w := by
 obtain ⟨hlen, hget⟩ := readCells_spec m c a.off l hr
 obtain ⟨l', hl, hq⟩ := exists_list (Γ := Γ) l (fun j v' => w.cell? (a'.add j) = some v') fun j v hv => by
  obtain ⟨v', e, r⟩ := hS.cell hb (hget j v hv) ha hi (j := j) rfl
  exact ⟨v', e, r⟩
 refine ⟨l', hl, ?_⟩
 have := run_loadCells_list (P := P) w a' l' hq
 rw [hl.length, hlen] at this
 exact this
theorem readSlice_sim (hS : SRel Γ W h w) {i : Nat} {c : PT Value} {ro : Bool} (hb : h.get i = some (.cells c ro)) {a a' : Addr} {m cap size : Nat} (ha : Γ.addr' m cap a a') (hi : a.block = i) {l : List Value}
  (hr : readCells c a.off (m * size) = some l) : ∃ l', VRels Γ l l' ∧ (loadCells a' (m * size)).run P w = .ok ⟨l'⟩ w := by
 rcases ha with ha | ha
 ·exact readCells_sim hS hb ha hi hr
 ·obtain rfl : m = 0 := by rcases ha with ha | ha <;> exact ha.1
  rw [Nat.zero_mul] at hr ⊢
  simp only [readCells, Option.some.injEq] at hr
  subst hr
  exact ⟨[], .nil, by simp [loadCells, loadCellsFrom]⟩
theorem aLoad_sim {t : TypeId} {x x' : Value} (hx : VRel Γ x x') : Sim P Γ (aLoad P t x) (Instr.loadAt t x') VRel := by
 intro W h n w hS
 unfold aLoad
 split
 ·rename_i a i d hi hd
  cases hx with
  | ptr _ a' ha =>
   refine SimAt.get fun B hB => ?_
   cases B with
   | map => exact SimAt.fail
   | iter => exact SimAt.fail
   | loop => exact SimAt.fail
   | deferred => exact SimAt.fail
   | cells c ro =>
    dsimp only
    have hrun : (Instr.loadAt t (.pointer (some a'))).run P w = (loadVar t a').run P w := by simp [Instr.loadAt, Instr.sureAddr]
    cases hag : isAgg d with
    | true =>
     simp only [cond_true]
     split
     ·rename_i l hl
      obtain ⟨l', hl', hr⟩ := readCells_sim (P := P) hS hB ha rfl hl
      refine SimAt.ok hS (b := .agg ⟨l'⟩) ?_ (.agg _ _ hl')
      rw [hrun]
      simp [loadVar, run_agg hd, hag, run_size hi, hr]
     ·exact SimAt.fail
    | false =>
     simp only [cond_false]
     split
     ·rename_i v hv
      obtain ⟨v', e, r⟩ := hS.cell0 hB hv ha rfl
      refine SimAt.ok hS (b := v') ?_ r
      rw [hrun]
      simp [loadVar, run_agg hd, hag, e]
     ·exact SimAt.fail
 ·exact SimAt.fail
theorem SRel.congr {h' : PT ABlk} (hS : SRel Γ W h w) (e : ∀ k, h'.get k = h.get k) : SRel Γ W h' w :=
 ⟨hS.below, hS.fz, fun i B hi => hS.live i B (by rw [← e]; exact hi), fun i j B B' b s b' s' hij hi hj => hS.disj i j B B' b s b' s' hij (by rw [← e]; exact hi) (by rw [← e]; exact hj), hS.dom, hS.siz, hS.fin, fun i c ro hi => hS.rows i c ro (by rw [← e]; exact hi)⟩
theorem PT.set_set_get {α : Type} (t : PT α) (i : Nat) (u v : Option α) (k : Nat) : ((t.set i u).set i v).get k = (t.set i v).get k := by
 simp only [PT.get_set]; split <;> rfl
theorem storeCells_sim {i : Nat} {a a' : Addr} (hi : a.block = i) : ∀ (l l' : List Value) (c c' : PT Value) (j : Nat) (h : PT ABlk) (w : World), Γ.addr a a' → SRel Γ W h w → h.get i = some (.cells c false) → VRels Γ l l' →
  writeCells c (a.off + j) l = some c' → ∃ w', (storeCells a' l' j).run P w = .ok () w' ∧ SRel Γ W (h.set i (some (.cells c' false))) w'
 | [], l', c, c', j, h, w, ha, hS, hb, hl, hw => by
  cases hl
  simp only [writeCells, Option.some.injEq] at hw
  subst hw
  exact ⟨w, rfl, hS.congr fun k => by rw [PT.get_set]; split <;> simp_all⟩
 | v :: l, l', c, c', j, h, w, ha, hS, hb, hl, hw => by
  cases hl with
  | cons _ v' _ l' hv hl =>
   simp only [writeCells] at hw
   split at hw
   ·simp at hw
   ·rename_i u hu
    cases ho : oneCell v with
    | false => simp [ho] at hw
    | true =>
     simp only [ho, cond_true] at hw
     have hadd : Γ.addr (aAdd a j) (a'.add j) := by
      obtain ⟨s, e, o⟩ := ha.at_
      unfold Addr.add aAdd
      split
      ·rename_i hj; subst hj; exact ⟨rfl, ha.spot', s, e, by simpa using o⟩
      ·exact ⟨rfl, rfl, s, e, by simp [o, Nat.add_assoc]⟩
     have hst := hS.setCell hb hadd hi hv (by simp [aAdd, hu])
     obtain ⟨u', hu', _⟩ := hS.cell hb hu ha hi (j := j) rfl
     have hfz := hS.frozen hb ha hi j
     obtain ⟨w', hrun, hS'⟩ := storeCells_sim hi l l' (c.set (a.off + j) (some v)) c' (j + 1) _ _ ha hst (by simp [PT.get_set_same, aAdd]) hl hw
     refine ⟨w', ?_, hS'.congr fun k => (PT.set_set_get _ _ _ _ _).symm⟩
     simp only [storeCells, Sem.run_bind, run_store P w _ _ .plain (hv.oneCell' ho), hu', hfz]
     simpa using hrun
theorem aStore_sim {t : TypeId} {x x' v v' : Value} (hx : VRel Γ x x') (hv : VRel Γ v v') : Sim P Γ (aStore P t x v) (Instr.storeAt t x' v') (fun _ _ _ => True) := by
 intro W h n w hS
 unfold aStore
 split
 ·rename_i a i hi
  cases hx with
  | ptr _ a' ha =>
   cases hsz : Nat.beq v.cells.toList.length i.size with
   | false => exact SimAt.fail
   | true =>
    have hsz := Nat.eq_of_beq_eq_true hsz
    simp only [cond_true]
    refine SimAt.get fun B hB => ?_
    split
    ·rename_i c
     split
     ·rename_i c' hc'
      obtain ⟨w', hr, hS'⟩ := storeCells_sim (P := P) (i := a.block) rfl _ _ c c' 0 h w ha hS hB hv.cells hc'
      refine SimAt.set (w' := w') (e' := pure ()) ?_ (SimAt.ok hS' rfl trivial)
      have : v'.cells.size = i.size := by rw [← hsz, ← hv.cells.length]; simp
      simp only [Instr.storeAt, Instr.sureAddr, Sem.run_bind, Sem.run_pure, Result.andThen_ok, storeVar, run_size hi, this, ne_eq, not_true_eq_false, if_false]
      exact hr
     ·exact SimAt.fail
    ·exact SimAt.fail
 ·exact SimAt.fail
theorem newRow_sim {l : List Value} {cs : Array Value} (hl : VRels Γ l cs.toList) (el : TypeId) : Sim P Γ (newRow l) (do pure (.pointer (some (← Go.newRow el cs))) : Sem Value) VRel := by
 intro W h n w hS
 refine SimAt.new fun hn => ?_
 obtain ⟨Γ', hst, hb, _, hS'⟩ := hS.allocCells hn l cs el (fun i v hv => by simpa using hl.get hv)
 refine ⟨Γ', w.alloc (.cells cs el), pure (.pointer (some ⟨w.heap.size, 0, none⟩)), hst, by simp [Go.newRow], SimAt.ok hS' rfl ?_⟩
 exact .ptr _ _ ⟨rfl, rfl, 0, by simpa using hb, by simp⟩
theorem aAlloc_sim {t : TypeId} : Sim P Γ (aAlloc P t) (Instr.alloc t true (.tuple #[])) VRel := by
 intro W h n w hS
 unfold aAlloc
 split
 ·rename_i z hz
  obtain ⟨hrun, hrel⟩ := zeroOf_spec hz
  refine SimAt.congr (e' := do pure (.pointer (some (← Go.newRow t z.cells)))) (w' := w) ?_ (newRow_sim (hrel Γ).cells t W h n w hS)
  simp [Instr.alloc, hrun, newVar]
 ·exact SimAt.fail
theorem box_sim {t : TypeId} {v v' : Value} (hv : VRel Γ v v') : Sim P Γ (newRow v.cells.toList) (Instr.box t v') VRel := by
 intro W h n w hS
 exact SimAt.congr (e' := do pure (.pointer (some (← Go.newRow t v'.cells)))) (w' := w) (by simp [Instr.box, newVar]) (newRow_sim hv.cells t W h n w hS)
theorem Emb.addr.add {a a' : Addr} (ha : Γ.addr a a') (k : Nat) : Γ.addr (aAdd a k) (a'.add k) := by
 obtain ⟨s, e, o⟩ := ha.at_
 unfold Addr.add aAdd
 split
 ·rename_i hj; subst hj; exact ⟨rfl, ha.spot', s, e, by simpa using o⟩
 ·exact ⟨rfl, rfl, s, e, by simp [o, Nat.add_assoc]⟩
theorem aFieldAddr_sim {s : TypeId} {x x' : Value} {f : Nat} (hx : VRel Γ x x') : Sim P Γ (aFieldAddr P s x f) (Instr.fieldAt s x' f) VRel := by
 intro W h n w hS
 unfold aFieldAddr
 split
 ·rename_i a fs hd
  split
  ·rename_i fd hf
   split
   ·rename_i i hi
    cases hz : Nat.beq i.size 0 with
    | true => exact SimAt.fail
    | false =>
     have hz : i.size ≠ 0 := fun e => by rw [e] at hz; exact Bool.noConfusion hz
     cases hx with
     | ptr _ a' ha =>
      have hf' : fs[f]? = some fd := by simpa using hf
      refine SimAt.ok hS (b := .pointer (some (a'.add fd.offset))) ?_ (.ptr _ _ (ha.add _))
      simp [Instr.fieldAt, run_und hd, hf', Instr.sureAddr, fieldPlace, run_size hi, hz]
   ·exact SimAt.fail
  ·exact SimAt.fail
 ·exact SimAt.fail
theorem part_sim {t : TypeId} {cs cs' : List Value} {off : Nat} {v : Value} (hc : VRels Γ cs cs') (he : aPart P t cs off = some v) :
  ∃ v', (∀ w, (part t ⟨cs'⟩ off).run P w = .ok v' w) ∧ VRel Γ v v' := by
 unfold aPart at he
 split at he
 ·rename_i i d hi hd
  cases hag : isAgg d with
  | true =>
   simp only [hag, cond_true, Option.some.injEq] at he
   subst he
   refine ⟨.agg ⟨(cs'.drop off).take i.size⟩, fun w => ?_, .agg _ _ ((hc.drop off).take i.size)⟩
   simp [part, run_agg hd, hag, run_size hi, List.extract]
  | false =>
   simp only [hag, cond_false] at he
   obtain ⟨v', e, r⟩ := hc.get he
   refine ⟨v', fun w => ?_, r⟩
   simp [part, run_agg hd, hag, e]
 ·simp at he
theorem aField_sim {t : TypeId} {x x' : Value} {f : Nat} (hx : VRel Γ x x') : Sim P Γ (aField P t x f) (Instr.field t x' f) VRel := by
 intro W h n w hS
 unfold aField
 split
 ·rename_i cs fs hd
  split
  ·rename_i fd hf
   cases hx with
   | agg l l' hl =>
    unfold AP.opt
    split
    ·rename_i v hv
     obtain ⟨v', hr, hrel⟩ := part_sim hl hv
     have hf' : fs[f]? = some fd := by simpa using hf
     refine SimAt.ok hS (b := v') ?_ hrel
     simp [Instr.field, run_und hd, hf', asAgg, hr]
    ·exact SimAt.fail
  ·exact SimAt.fail
 ·exact SimAt.fail
theorem asNat_spec {v v' : Value} {k : Nat} (h : VRel Γ v v') (e : asNat v = some k) : ∃ kd, v' = .int kd (k : Int) := by
 unfold asNat at e
 split at e
 ·obtain rfl := Option.some.inj e; cases h; exact ⟨_, rfl⟩
 ·simp at e
theorem aIndexAddr_sim {t : TypeId} {x x' i i' : Value} (hx : VRel Γ x x') (hi : VRel Γ i i') : Sim P Γ (aIndexAddr P t x i) (Instr.indexAt t x' i') VRel := by
 intro W h n w hS
 unfold aIndexAddr
 split
 ·rename_i len e a k hd hk
  split
  ·rename_i j hj
   cases hlt : Nat.blt k len with
   | false => exact SimAt.fail
   | true =>
    have hlt : k < len := Nat.blt_eq.mp hlt
    obtain ⟨kd, rfl⟩ := asNat_spec hi hk
    cases hx with
    | ptr _ a' ha =>
     refine SimAt.ok hS (b := .pointer (some (a'.add (k * j.size)))) ?_ (.ptr _ _ (ha.add _))
     have h1 : (0 : Int) ≤ k ∧ (k : Int) < len := ⟨by omega, by omega⟩
     simp [Instr.indexAt, asIntOf, run_und hd, Instr.sureAddr, run_size hj, h1, hlt]
  ·exact SimAt.fail
 ·rename_i e a len cap k hd hk
  split
  ·rename_i j hj
   cases hlt : Nat.blt k len with
   | false => exact SimAt.fail
   | true =>
    have hlt : k < len := Nat.blt_eq.mp hlt
    obtain ⟨kd, rfl⟩ := asNat_spec hi hk
    cases hx with
    | slice _ a' _ _ c' ha hc =>
     have ha := ha.exact (.inl (by omega))
     refine SimAt.ok hS (b := .pointer (some (a'.add (k * j.size)))) ?_ (.ptr _ _ (ha.add _))
     have h1 : (0 : Int) ≤ k ∧ (k : Int) < len := ⟨by omega, by omega⟩
     simp [Instr.indexAt, asIntOf, run_und hd, run_size hj, h1, hlt]
  ·exact SimAt.fail
 ·exact SimAt.fail
theorem bytes_get {s : ByteArray} {k : Nat} {b : UInt8} (hb : s.data.toList[k]? = some b) : s[k]? = some b := by
 have h : s.data[k]? = some b := by simpa using hb
 rw [getElem?_def]
 obtain ⟨hlt, he⟩ := Array.getElem?_eq_some_iff.1 h
 have hlt' : k < s.size := hlt
 rw [dif_pos hlt']
 exact congrArg some he
theorem aIndex_sim {t : TypeId} {x x' i i' : Value} (hx : VRel Γ x x') (hi : VRel Γ i i') : Sim P Γ (aIndex P t x i) (Instr.index t x' i') VRel := by
 intro W h n w hS
 unfold aIndex
 split
 ·rename_i len e cs k hd hk
  split
  ·rename_i j hj
   cases hlt : Nat.blt k len with
   | false => exact SimAt.fail
   | true =>
    have hlt : k < len := Nat.blt_eq.mp hlt
    obtain ⟨kd, rfl⟩ := asNat_spec hi hk
    cases hx with
    | agg l l' hl =>
     simp only [cond_true]
     unfold AP.opt
     split
     ·rename_i v hv
      obtain ⟨v', hr, hrel⟩ := part_sim hl hv
      refine SimAt.ok hS (b := v') ?_ hrel
      have h1 : (0 : Int) ≤ k ∧ (k : Int) < len := ⟨by omega, by omega⟩
      simp [Instr.index, asIntOf, run_und hd, run_size hj, h1, hr, hlt]
     ·exact SimAt.fail
  ·exact SimAt.fail
 ·rename_i s k hd hk
  split
  ·rename_i b hb
   obtain ⟨kd, rfl⟩ := asNat_spec hi hk
   cases hx
   refine SimAt.ok hS (b := .int .u8 b.toNat) ?_ (.int _ _)
   have : s[k]? = some b := bytes_get hb
   simp [Instr.index, asIntOf, run_und hd, this]
  ·exact SimAt.fail
 ·exact SimAt.fail
end
end Go.Am
