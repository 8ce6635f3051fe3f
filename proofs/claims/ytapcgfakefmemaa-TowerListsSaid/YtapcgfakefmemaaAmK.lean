/-
  The abstract machine: the operations' simulations: make, len, cap, copy, append, min, max.
-/
import Derived.Test.YtapcgfakefmemaaAmJ
set_option linter.unusedSimpArgs false
set_option linter.unusedVariables false
namespace Go.Am
open Go.RowKit

section
variable {P : Program} {Γ : Emb} {W w : World} {h : PT ABlk} {n : Nat}

theorem wrap_small {k : Nat} (hk : k ≤ 1048576) : IntKind.i64.wrap (k : Int) = k := by
  simp [IntKind.wrap, IntKind.bits, IntKind.signed]; omega

theorem aMakeSlice_sim {t : TypeId} {l c l' c' : Value} (hl : VRel Γ l l') (hc : VRel Γ c c') : Sim P Γ (aMakeSlice P t l c) (Instr.makeSlice t l' c') VRel := by
  intro W h n w hS
  unfold aMakeSlice
  split
  · rename_i e kl kc hd hkl hkc
    split
    · rename_i i z hi hz
      obtain ⟨hzr, hzz⟩ := zeroOf_spec hz
      obtain ⟨kd, rfl⟩ := asNat_spec hl hkl
      obtain ⟨kd', rfl⟩ := asNat_spec hc hkc
      cases hcc : (Nat.ble kl kc && Nat.ble kc 1048576 && Nat.ble i.bytes 65536 && Nat.beq z.cells.toList.length i.size && Nat.blt 0 i.size) with
      | false => exact SimAt.fail
      | true =>
        simp only [Bool.and_eq_true] at hcc
        have h1 := Nat.le_of_ble_eq_true hcc.1.1.1.1
        have h2 := Nat.le_of_ble_eq_true hcc.1.1.1.2
        have h3 := Nat.le_of_ble_eq_true hcc.1.1.2
        have h4 := Nat.eq_of_beq_eq_true hcc.1.2
        have h5 : 0 < i.size := Nat.blt_eq.mp hcc.2
        have hzs : z.cells.size = i.size := by rw [← h4]; simp
        simp only [cond_true]
        refine SimAt.new fun hn => ?_
        obtain ⟨Γ', hst, hb, _, hS'⟩ := hS.allocCells hn (rep z.cells.toList kc) ⟨rep z.cells.toList kc⟩ e (fun i v hv => by simpa using ((hzz Γ).cells.rep kc).get hv)
        have hlt : kc < capInf := by unfold capInf; omega
        refine ⟨Γ', _, pure (.slice (some ⟨w.heap.size, 0, none⟩) kl kc), hst, ?_, SimAt.ok hS' rfl (.slice _ _ _ _ _ (.inl ⟨rfl, rfl, 0, by simpa using hb, by simp⟩) (by unfold Emb.cap; rw [if_neg (by omega)]))⟩
        have w1 : IntKind.i64.wrap (kl : Int) = kl := wrap_small (by omega)
        have w2 : IntKind.i64.wrap (kc : Int) = kc := wrap_small h2
        have hbytes : i.bytes * kc ≤ 68719476736 := Nat.le_trans (Nat.mul_le_mul h3 h2) (by omega)
        have hbytes' : (i.bytes : Int) * (kc : Int) ≤ 68719476736 := by
          have := Int.ofNat_le.2 hbytes
          rw [Int.natCast_mul] at this
          exact this
        have t2 : (decide ((kc : Int) < 0) || decide ((i.bytes : Int) * (kc : Int) > 2 ^ 48)) = false := by
          simp only [Bool.or_eq_false_iff, decide_eq_false_iff_not]; omega
        have hcond : ((decide ((kc : Int) < 0) || decide ((i.bytes : Int) * (kc : Int) > 2 ^ 48)) = true ∨ (kl : Int) < 0 ∨ (kl : Int) > kc) = False := by
          rw [t2]; simp; omega
        have hz0 : kc * i.size = 0 ↔ kc = 0 := by
          constructor
          · intro hh; rcases Nat.mul_eq_zero.1 hh with hh | hh <;> omega
          · intro hh; subst hh; simp
        have hrow : (Array.range (kc * i.size)).map (fun j => (if kc * i.size = 0 then (#[] : Array Value) else z.cells)[j % (if kc * i.size = 0 then (#[] : Array Value) else z.cells).size]!) = ⟨rep z.cells.toList kc⟩ := by
          by_cases h0 : kc = 0
          · subst h0; simp [rep, Array.range]
          · have : ¬ kc * i.size = 0 := fun hh => h0 (hz0.1 hh)
            simp only [this, if_false]
            rw [← hzs]
            exact rep_array z.cells kc (by omega)
        unfold Instr.makeSlice
        simp only [Sem.run_bind, run_und hd, Result.andThen_ok, asInt, asIntOf, Sem.run_pure, run_info hi, w1, w2]
        have hfalse : ¬ ((decide ((kc : Int) < 0) || decide ((i.bytes : Int) * (kc : Int) > 2 ^ 48) || decide ((kl : Int) < 0) || decide ((kl : Int) > kc)) = true) := by
          rw [t2]; simp; omega
        rw [if_neg hfalse]
        simp only [Sem.run_bind, run_askRoom, Result.andThen_ok, run_size hi, Int.toNat_natCast, Sem.run_ite, Sem.run_pure, hzr, Result.andThen_ite]
        by_cases h0 : kc * i.size = 0
        · simp only [h0, if_true] at hrow ⊢
          simp only [Go.newRow, Sem.run_bind, run_newObj, Result.andThen_ok, Sem.run_pure, hrow]
          rfl
        · simp only [h0, if_false] at hrow ⊢
          simp only [Go.newRow, Sem.run_bind, run_newObj, Result.andThen_ok, Sem.run_pure, hrow]
          rfl
    · exact SimAt.fail
  · exact SimAt.fail

/-- What is read of a slice or string whose cells are appended or copied. -/
def FirstOk (h : PT ABlk) (size : Nat) (x : Value) (k : Nat) (l : List Value) : Prop :=
  match x with
  | .slice none m _ => k = m ∧ l = []
  | .slice (some a) m _ => k = m ∧ ∃ c ro, h.get a.block = some (.cells c ro) ∧ readCells c a.off (m * size) = some l
  | .string s => k = s.size ∧ l = s.data.toList.map fun b => .int .u8 b.toNat
  | _ => False

theorem first_bind {α β : Type} {size : Nat} {x : Value} {f : Nat × List Value → AP α} {e : Sem β} {R : Emb → α → β → Prop}
    (hk : ∀ k l, FirstOk h size x k l → SimAt P Γ W h n w (f (k, l)) e R) : SimAt P Γ W h n w ((aFirst size x).bind f) e R := by
  unfold aFirst
  split
  · exact hk _ _ ⟨rfl, rfl⟩
  · rename_i a m cap
    refine SimAt.get fun B hB => ?_
    cases B with
    | map => exact SimAt.fail
    | iter => exact SimAt.fail
    | loop => exact SimAt.fail
    | deferred => exact SimAt.fail
    | cells c ro =>
      dsimp only
      cases hr : readCells c a.off (m * size) with
      | none => exact SimAt.fail
      | some l => exact hk _ _ ⟨rfl, c, ro, hB, hr⟩
  · exact hk _ _ ⟨rfl, rfl⟩
  · exact SimAt.fail

theorem FirstOk.run {size : Nat} {x x' : Value} {k : Nat} {l : List Value} (hS : SRel Γ W h w) (hx : VRel Γ x x') (hf : FirstOk h size x k l) :
    ∃ l', VRels Γ l l' ∧ (Builtin.firstCells size k x').run P w = .ok ⟨l'⟩ w ∧ ∀ w, (Builtin.lenOf x').run P w = .ok k w := by
  unfold FirstOk at hf
  split at hf
  · obtain ⟨rfl, rfl⟩ := hf
    cases hx
    exact ⟨[], .nil, rfl, fun _ => rfl⟩
  · obtain ⟨rfl, c, ro, hb, hr⟩ := hf
    cases hx with
    | slice a a' _ _ _ ha hc =>
      obtain ⟨l', hl, hrun⟩ := readSlice_sim (P := P) hS hb ha rfl hr
      exact ⟨l', hl, hrun, fun _ => rfl⟩
  · obtain ⟨rfl, rfl⟩ := hf
    cases hx
    rename_i s
    refine ⟨_, VRels.of_all _ (fun v hv => ?_), ?_, fun _ => rfl⟩
    · simp only [List.mem_map] at hv
      obtain ⟨b, _, rfl⟩ := hv
      exact .int _ _
    · simp only [Builtin.firstCells, Sem.run_pure]
      congr 1
      have : s.extract 0 s.size = s := by simp
      rw [this]
      apply Array.ext'
      simp
  · exact hf.elim

theorem growBy_le (newLen c : Nat) (h : c ≤ 1048576) : Builtin.growBy newLen 4 c ≤ 16777216 := by
  simp only [Builtin.growBy]
  repeat' split
  all_goals omega

theorem nextslicecap_le {need c : Nat} (hn : need ≤ 1048576) (hc : c < need) : Builtin.nextslicecap need c ≤ 16777216 := by
  unfold Builtin.nextslicecap
  split
  · omega
  · split
    · omega
    · exact growBy_le _ _ (by omega)

end
end Go.Am
