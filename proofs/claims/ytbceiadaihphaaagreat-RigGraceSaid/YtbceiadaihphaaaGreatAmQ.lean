/-
  The abstract machine: one operation, whole.
-/
import Derived.Test.YtbceiadaihphaaaGreatAmP
set_option linter.unusedSimpArgs false
set_option linter.unusedVariables false
namespace Go.Am
open Go.RowKit
section
variable {P : Program} {Γ : Emb} {W w : World} {h : PT ABlk} {n : Nat}
theorem arr_map {α β : Type} (f : α → β) (a : Array α) : a.map f = ⟨a.toList.map f⟩ := by apply Array.ext'; simp
theorem lift_v {m : AP Value} {e : Sem Value} (hm : Sim P Γ m e VRel) : Sim P Γ (m.bind fun x => .pure (.value x)) (do pure (.value (← e)) : Sem Next) NxR := by
 intro W h n w hS
 refine SimAt.bind (hm W h n w hS) fun Γ' v v' hle hv => ?_
 exact fun W h n w hS => SimAt.ok hS rfl (.value _ _ hv)
theorem lift_u {m : AP Unit} {e : Sem Unit} (hm : Sim P Γ m e fun _ _ _ => True) : Sim P Γ (m.bind fun _ => .pure .skip) (do e; pure .skip : Sem Next) NxR := by
 intro W h n w hS
 refine SimAt.bind (hm W h n w hS) fun Γ' v v' hle hv => ?_
 exact fun W h n w hS => SimAt.ok hS rfl .skip
theorem opt_sim {o : Option Value} {why : String} {e : Sem Value} (h : ∀ v, o = some v → ∀ w, ∃ v', e.run P w = .ok v' w ∧ VRel Γ v v') : Sim P Γ (.opt why o .pure : AP Value) e VRel := by
 intro W hh n w hS
 unfold AP.opt
 split
 ·rename_i v
  obtain ⟨v', hr, hv⟩ := h v rfl w
  exact SimAt.ok hS hr hv
 ·exact SimAt.fail
theorem orel_map {ρ ρ' : Operand → Value} {x : Option Operand} (h : ∀ y, x = some y → VRel Γ (ρ y) (ρ' y)) : ORel Γ (x.map ρ) (x.map ρ') := by
 cases x with
 | none => exact .no
 | some y => exact .yes _ _ (h y rfl)
theorem aOp_sim {ρ ρ' : Operand → Value} {o : Oper} (hρ : ∀ x ∈ o.op.operands, VRel Γ (ρ x) (ρ' x)) : Sim P Γ (aOp P ρ o) (execOp ρ' o) NxR := by
 obtain ⟨dst, op, type, pos, after, guard⟩ := o
 dsimp only at hρ
 have failk : ∀ {why : String} {e : Sem Next}, Sim P Γ (.fail why : AP ANext) e NxR := fun W h n w hS => SimAt.fail
 cases op with
 | move x => exact fun W h n w hS => SimAt.ok hS rfl (.value _ _ (hρ x (by simp [Op.operands])))
 | assign x => exact fun W h n w hS => SimAt.ok hS rfl (.value _ _ (hρ x (by simp [Op.operands])))
 | pick c a b =>
  intro W h n w hS
  have hc := hρ c (by simp [Op.operands])
  have ha := hρ a (by simp [Op.operands])
  have hb := hρ b (by simp [Op.operands])
  show SimAt P Γ W h n w (match ρ c with | .bool t => .pure (.value (cond t (ρ a) (ρ b))) | _ => .fail "pick") (do pure (.value (if ← asBool (ρ' c) then ρ' a else ρ' b))) NxR
  split
  ·rename_i t heq
   rw [heq] at hc
   generalize hv : ρ' c = cv at hc
   cases hc
   refine SimAt.ok hS (b := .value (if t then ρ' a else ρ' b)) (by simp [asBool]) (.value _ _ ?_)
   cases t
   ·exact hb
   ·exact ha
  ·exact SimAt.fail
 | alloc e => exact lift_v aAlloc_sim
 | box e x => exact lift_v (box_sim (hρ x (by simp [Op.operands])))
 | build t ps =>
  have hp : IRels Γ (ps.toList.map fun p => (p.1, ρ p.2)) (ps.toList.map fun p => (p.1, ρ' p.2)) := IRels.map _ fun p hp => hρ p.2 (by
   simp only [Op.operands, List.mem_toArray, List.mem_map]; exact ⟨p, hp, rfl⟩)
  have := lift_v (aBuild_sim (P := P) (t := t) hp)
  rw [← arr_map] at this
  exact this
 | buildSlice t k ps =>
  have hp : IRels Γ (ps.toList.map fun p => (p.1, ρ p.2)) (ps.toList.map fun p => (p.1, ρ' p.2)) := IRels.map _ fun p hp => hρ p.2 (by
   simp only [Op.operands, List.mem_toArray, List.mem_map]; exact ⟨p, hp, rfl⟩)
  have := lift_v (aBuildSlice_sim (P := P) (t := t) (len := k) hp)
  rw [← arr_map] at this
  exact this
 | insert t m k v => exact lift_u (aMapUpdate_sim (hρ m (by simp [Op.operands])) (hρ k (by simp [Op.operands])) (hρ v (by simp [Op.operands])))
 | load t a => exact lift_v (aLoad_sim (hρ a (by simp [Op.operands])))
 | store t a v => exact lift_u (aStore_sim (hρ a (by simp [Op.operands])) (hρ v (by simp [Op.operands])))
 | ready g => exact failk
 | waits g => exact failk
 | nilCheck x =>
  intro W h n w hS
  have hx := hρ x (by simp [Op.operands])
  show SimAt P Γ W h n w ((aNilCheck (ρ x)).bind fun x => .pure (.value x)) (execOp ρ' ⟨dst, .nilCheck x, type, pos, after, guard⟩) NxR
  unfold aNilCheck
  split
  ·rename_i a heq
   rw [heq] at hx
   generalize hv : ρ' x = xv at hx
   cases hx with
   | ptr _ a' ha => exact SimAt.ok hS (b := .value (.pointer (some a'))) (by simp [execOp, hv]) (.value _ _ (.ptr _ _ ha))
  ·rename_i t v heq
   rw [heq] at hx
   generalize hv : ρ' x = xv at hx
   cases hx with
   | iface _ _ v' hvv => exact SimAt.ok hS (b := .value (.iface t v')) (by simp [execOp, hv]) (.value _ _ (.iface _ _ _ hvv))
  ·rename_i f a b heq
   rw [heq] at hx
   generalize hv : ρ' x = xv at hx
   cases hx with
   | func _ fn' l1 l1' l2 l2' h1 h2 hp =>
    cases hp with
    | plain _ hpl => exact SimAt.ok hS (b := .value (.func (.func f) ⟨l1'⟩ ⟨l2'⟩)) (by simp [execOp, hv]) (.value _ _ (.func _ _ _ _ _ _ h1 h2 (.plain _ hpl)))
  ·exact SimAt.fail
 | binOp op t x y ty => exact lift_v (aBinOp_sim (hρ x (by simp [Op.operands])) (hρ y (by simp [Op.operands])))
 | unOp op t x => exact lift_v (opt_sim fun v hv w => let ⟨h1, h2⟩ := aUnary_sim (P := P) (Γ := Γ) (hρ x (by simp [Op.operands])) hv w; ⟨v, h1, h2⟩)
 | convert s d x => exact lift_v (aConvert_sim (hρ x (by simp [Op.operands])))
 | sliceToArrayPointer d x => exact failk
 | makeInterface t x => exact lift_v (aMakeInterface_sim (hρ x (by simp [Op.operands])))
 | makeFunc fn first captured =>
  intro W h n w hS
  show SimAt P Γ W h n w (cond (fnPlain fn) (.pure (.value (.func fn ⟨first.toList.map ρ⟩ ⟨captured.toList.map ρ⟩))) (.fail "makeFunc")) (do pure (.value (← Instr.makeFunc fn (first.map ρ') (captured.map ρ')))) NxR
  cases hp : fnPlain fn with
  | false => exact SimAt.fail
  | true =>
   have h1 : VRels Γ (first.toList.map ρ) (first.toList.map ρ') := VRels.map _ fun x hx => hρ x (by simp [Op.operands]; exact .inl (by simpa using hx))
   have h2 : VRels Γ (captured.toList.map ρ) (captured.toList.map ρ') := VRels.map _ fun x hx => hρ x (by simp [Op.operands]; exact .inr (by simpa using hx))
   refine SimAt.ok hS (b := .value (.func fn (first.map ρ') (captured.map ρ'))) rfl ?_
   rw [arr_map, arr_map]
   exact .value _ _ (.func _ _ _ _ _ _ h1 h2 (.plain _ fun l e => by subst e; simp [fnPlain] at hp))
 | makeMap t r => exact lift_v (aMakeMap_sim (orel_map fun y hy => hρ y (by subst hy; simp [Op.operands])))
 | makeChan t s => exact failk
 | makeSlice t l c => exact lift_v (aMakeSlice_sim (hρ l (by simp [Op.operands])) (hρ c (by simp [Op.operands])))
 | slice t x lo hi mx =>
  exact lift_v (aSlice_sim (hρ x (by simp [Op.operands])) (orel_map fun y hy => hρ y (by subst hy; simp [Op.operands])) (orel_map fun y hy => hρ y (by subst hy; simp [Op.operands])) (orel_map fun y hy => hρ y (by subst hy; simp [Op.operands])))
 | fieldAddr t x f => exact lift_v (aFieldAddr_sim (hρ x (by simp [Op.operands])))
 | field t x f => exact lift_v (aField_sim (hρ x (by simp [Op.operands])))
 | indexAddr t x i => exact lift_v (aIndexAddr_sim (hρ x (by simp [Op.operands])) (hρ i (by simp [Op.operands])))
 | index t x i => exact lift_v (aIndex_sim (hρ x (by simp [Op.operands])) (hρ i (by simp [Op.operands])))
 | lookup t x i ok => exact lift_v (aLookup_sim (hρ x (by simp [Op.operands])) (hρ i (by simp [Op.operands])))
 | mapUpdate t m k v => exact lift_u (aMapUpdate_sim (hρ m (by simp [Op.operands])) (hρ k (by simp [Op.operands])) (hρ v (by simp [Op.operands])))
 | mapEntry t m k => exact failk
 | entryStore t m s v => exact failk
 | range t x => exact lift_v (aRange_sim (hρ x (by simp [Op.operands])))
 | next x b => exact lift_v (aNext_sim (hρ x (by simp [Op.operands])))
 | entry x => exact lift_v (aEntry_sim (hρ x (by simp [Op.operands])))
 | typeAssert x t a ok => exact lift_v (aTypeAssert_sim (hρ x (by simp [Op.operands])))
 | extract x i => exact lift_v (aExtract_sim (hρ x (by simp [Op.operands])))
 | call c => exact aCall_sim fun x hx => hρ x (by simpa [Op.operands] using hx)
 | go c => exact failk
 | defer c => exact failk
 | panic x => exact failk
 | send a b => exact failk
 | recv a b c => exact failk
 | select a b => exact failk
end
end Go.Am
