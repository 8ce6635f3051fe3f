/-
  The abstract machine: the operations' simulations: arithmetic, conversions, slices, interfaces, results.
-/
import Derived.Test.YtapcgfakefmemaaAmG
set_option linter.unusedSimpArgs false
set_option linter.unusedVariables false
namespace Go.Am
open Go.RowKit

section
variable {P : Program} {Γ : Emb} {W w : World} {h : PT ABlk} {n : Nat}

theorem intOp_sim {op : BinOp} (hs1 : op ≠ .shl) (hs2 : op ≠ .shr) {t : TypeId} {k : IntKind} {a b : Int} {v : Value} (e : intOp op k a b = some v) (w : World) :
    (binOp op t (.int k a) (.int k b)).run P w = .ok v w ∧ VRel Γ v v := by
  cases op <;> first | (exact absurd rfl hs1) | (exact absurd rfl hs2) | skip
  all_goals
    simp only [intOp] at e
    first
      | (split at e
         · simp at e
         · rename_i hb
           obtain rfl := Option.some.inj e
           exact ⟨by simp [binOp, Op.intDiv, hb], .int _ _⟩)
      | (obtain rfl := Option.some.inj e
         exact ⟨by simp [binOp, Op.intArith, Op.intBits, Op.intCmp], by constructor⟩)

theorem shiftOp_sim {op : BinOp} {t : TypeId} {k k' : IntKind} {a b : Int} {v : Value} (e : shiftOp op k a b = some v) (w : World) :
    (op = .shl ∨ op = .shr) → (binOp op t (.int k a) (.int k' b)).run P w = .ok v w ∧ VRel Γ v v := by
  intro hop
  unfold shiftOp at e
  split at e
  · simp at e
  · rename_i hb
    rcases hop with rfl | rfl
    · obtain rfl := Option.some.inj e
      exact ⟨by simp [binOp, Op.shift, hb], .int _ _⟩
    · obtain rfl := Option.some.inj e
      exact ⟨by simp [binOp, Op.shift, hb], .int _ _⟩

theorem run_eqGuard_ints (op : BinOp) (t : TypeId) (ox oy : Operand) (k k' : IntKind) (a b : Int) (w : World) : (eqGuard op t ox oy (.int k a) (.int k' b)).run P w = .ok () w := by
  cases op <;> simp [eqGuard]

theorem run_eqGuard_strs (op : BinOp) (t : TypeId) (ox oy : Operand) (a b : ByteArray) (w : World) : (eqGuard op t ox oy (.string a) (.string b)).run P w = .ok () w := by
  cases op <;> simp [eqGuard]

theorem run_eqGuardIn_nil (d : Nat) {t : TypeId} {ms : Array (String × TypeId)} (hd : P.underlying t = some (.interface ms)) (w : World) : (Op.eqGuardIn (d + 1) t .nilIface .nilIface).run P w = .ok (!ms.isEmpty) w := by
  simp [Op.eqGuardIn, run_und hd]

theorem eqGuard_sim {op : BinOp} {t : TypeId} {ox oy : Operand} {x y x' y' : Value} (hx : VRel Γ x x') (hy : VRel Γ y y') (hg : eqGuardOk P t (isConst ox) (isConst oy) x y = true) (w : World) :
    (eqGuard op t ox oy x' y').run P w = .ok () w := by
  by_cases hop : (op matches .eql | .neq) = true
  case neg => cases op <;> first | (simp at hop; done) | simp [eqGuard]
  case pos =>
    cases hx with
    | niliface =>
      cases hy with
      | niliface =>
        unfold eqGuardOk at hg
        simp only [Bool.or_eq_true] at hg
        have hcon : ∀ o : Operand, isConst o = true → ∃ v, o = .const v := fun o ho => by cases o <;> simp [isConst] at ho; exact ⟨_, rfl⟩
        rcases hg with (hg | hg) | hg
        · obtain ⟨v, rfl⟩ := hcon _ hg
          cases op <;> simp [eqGuard]
        · obtain ⟨v, rfl⟩ := hcon _ hg
          cases op <;> simp [eqGuard]
        · split at hg
          · rename_i ms hd
            have hgd : ∀ w, (Op.eqGuardIn Op.maxDepth t .nilIface .nilIface).run P w = .ok false w := by
              intro w
              have := run_eqGuardIn_nil (P := P) 9999 hd w
              rw [show ms.isEmpty = true from hg] at this
              exact this
            cases op <;> simp only [eqGuard] <;> (repeat' split) <;> simp [hgd]
          · simp at hg
      | _ => cases op <;> simp [eqGuard]
    | agg l l' hl =>
      cases hy with
      | agg m m' hm =>
        unfold eqGuardOk at hg
        have : P.eqGuardType P.depth t = false := by simpa using hg
        exact run_eqGuard_agg w op t ox oy _ _ this
      | _ => cases op <;> simp [eqGuard]
    | _ => cases hy <;> cases op <;> simp [eqGuard]

theorem run_binOp_eql {t : TypeId} {x y : Value} (hi : ∀ k a k' b, ¬ (x = .int k a ∧ y = .int k' b)) (hs : ∀ a b, ¬ (x = .string a ∧ y = .string b)) (hf : ∀ k a k' b, ¬ (x = .float k a ∧ y = .float k' b))
    (hc : ∀ k a b k' c d, ¬ (x = .complex k a b ∧ y = .complex k' c d)) (w : World) :
    (binOp .eql t x y).run P w = ((Op.equalIn 10000 t x y).run P w).andThen fun b w' => .ok (.bool b) w' := by
  cases x <;> cases y <;> first
    | (exact absurd ⟨rfl, rfl⟩ (hi _ _ _ _))
    | (exact absurd ⟨rfl, rfl⟩ (hs _ _))
    | (exact absurd ⟨rfl, rfl⟩ (hf _ _ _ _))
    | (exact absurd ⟨rfl, rfl⟩ (hc _ _ _ _ _ _))
    | (simp only [binOp]; simp [Op.equal, Op.maxDepth])

theorem run_binOp_neq {t : TypeId} {x y : Value} (hi : ∀ k a k' b, ¬ (x = .int k a ∧ y = .int k' b)) (hs : ∀ a b, ¬ (x = .string a ∧ y = .string b)) (hf : ∀ k a k' b, ¬ (x = .float k a ∧ y = .float k' b))
    (hc : ∀ k a b k' c d, ¬ (x = .complex k a b ∧ y = .complex k' c d)) (w : World) :
    (binOp .neq t x y).run P w = ((Op.equalIn 10000 t x y).run P w).andThen fun b w' => .ok (.bool !b) w' := by
  cases x <;> cases y <;> first
    | (exact absurd ⟨rfl, rfl⟩ (hi _ _ _ _))
    | (exact absurd ⟨rfl, rfl⟩ (hs _ _))
    | (exact absurd ⟨rfl, rfl⟩ (hf _ _ _ _))
    | (exact absurd ⟨rfl, rfl⟩ (hc _ _ _ _ _ _))
    | (simp only [binOp]; simp [Op.equal, Op.maxDepth])

theorem aEqual_float {d : Nat} {t : TypeId} {k k' : FloatKind} {a b : Nat} : ∃ w, aEqual P d t (.float k a) (.float k' b) = .fail w := by
  cases d with
  | zero => exact ⟨_, rfl⟩
  | succ d => unfold aEqual; split <;> first | (exact ⟨_, rfl⟩) | (simp_all; done)

theorem aEqual_complex {d : Nat} {t : TypeId} {k k' : FloatKind} {a b a' b' : Nat} : ∃ w, aEqual P d t (.complex k a a') (.complex k' b b') = .fail w := by
  cases d with
  | zero => exact ⟨_, rfl⟩
  | succ d => unfold aEqual; split <;> first | (exact ⟨_, rfl⟩) | (simp_all; done)

end
end Go.Am
