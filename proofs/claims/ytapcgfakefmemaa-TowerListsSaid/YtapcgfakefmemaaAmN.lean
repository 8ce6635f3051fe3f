/-
  The abstract machine: the operations' simulations: ranges over maps, clear, atomic operations; receivers and methods; the call's target; the operation whole.
-/
import Derived.Test.YtapcgfakefmemaaAmM
import Derived.KernelRfl
set_option linter.unusedSimpArgs false
set_option linter.unusedVariables false
namespace Go.Am
open Go.RowKit

section
variable {P : Program} {Γ : Emb} {W w : World} {h : PT ABlk} {n : Nat}

theorem aRange_sim {t : TypeId} {x x' : Value} (hx : VRel Γ x x') : Sim P Γ (aRange P t x) (Instr.range t x') VRel := by
  intro W h n w hS
  unfold aRange
  split
  · rename_i k e hd
    cases hx
    refine SimAt.new fun hn => ?_
    obtain ⟨Γ', hst, hb, hS'⟩ := hS.allocOther hn (.mapIter none 0 #[] 0) (.iter none 0 [] 0) rfl (fun Γ' w' _ h1 => ⟨rfl, none, h1, fun _ => rfl, fun r e => by cases e⟩)
    refine ⟨Γ', _, pure (.pointer (some ⟨w.heap.size, 0, none⟩)), hst, ?_, SimAt.ok hS' rfl (.ptr _ _ ⟨rfl, rfl, 0, hb, rfl⟩)⟩
    simp [Instr.range, run_und hd]
  · rename_i k e r hd
    cases hx with
    | map _ r' hr =>
      refine SimAt.get fun B hB => ?_
      split
      · rename_i es clk
        obtain ⟨b, s, e, ⟨rfl, ents, h1, h2⟩, _⟩ := hS.live _ _ hB
        rw [hr] at e
        obtain ⟨rfl, _⟩ : r' = b ∧ 0 = 0 := by simpa using e
        refine SimAt.new fun hn => ?_
        obtain ⟨Γ', hst, hb, hS'⟩ := hS.allocOther hn (.mapIter (some r') clk #[] clk) (.iter (some r) clk [] clk) rfl
          (fun Γ' w' hle h1 => ⟨rfl, some r', h1, (fun e => by cases e), (fun q e => by cases e; exact ⟨r', rfl, hle.blk _ _ hr⟩)⟩)
        refine ⟨Γ', _, pure (.pointer (some ⟨w.heap.size, 0, none⟩)), hst, ?_, SimAt.ok hS' rfl (.ptr _ _ ⟨rfl, rfl, 0, hb, rfl⟩)⟩
        have hgo : (getObj r').run P w = .ok (.map ents clk) w := by simp [getObj, Sem.run, h1]
        simp [Instr.range, run_und hd, hgo]
      · exact SimAt.fail
  · exact SimAt.fail

theorem PRels.filter (p : Nat → Bool) : ∀ {es : List (Value × Value × Nat)} {ents : List MapEntry}, PRels Γ es ents → PRels Γ (es.filter fun e => p e.2.2) (ents.filter fun e => p e.born)
  | _, _, .nil => .nil
  | _, _, .cons a e l l' h1 h2 hb t => by
    have ih := PRels.filter p t
    simp only [List.filter_cons, ← hb]
    split
    · exact .cons a e _ _ h1 h2 hb ih
    · exact ih

theorem PRels.all (p : Nat → Bool) : ∀ {es : List (Value × Value × Nat)} {ents : List MapEntry}, PRels Γ es ents → (ents.all fun e => p e.born) = es.all fun e => p e.2.2
  | _, _, .nil => rfl
  | _, _, .cons a e l l' h1 h2 hb t => by
    simp only [List.all_cons, ← hb, PRels.all p t]

theorem PRels.find (p : Nat → Bool) : ∀ {es : List (Value × Value × Nat)} {ents : List MapEntry}, PRels Γ es ents → ∀ a, (es.find? fun e => p e.2.2) = some a →
    ∃ e, (ents.find? fun e => p e.born) = some e ∧ VRel Γ a.1 e.key ∧ VRel Γ a.2.1 e.val
  | _, _, .nil, a, h => by simp at h
  | _, _, .cons a e l l' h1 h2 hb t, x, h => by
    simp only [List.find?_cons, ← hb] at h ⊢
    split at h
    · obtain rfl := Option.some.inj h
      exact ⟨e, by simp_all, h1, h2⟩
    · obtain ⟨e', he, hr⟩ := PRels.find p t x h
      exact ⟨e', by simp_all, hr⟩

theorem nat_beq_eq (a b : Nat) : Nat.beq a b = (a == b) := by
  rw [Bool.eq_iff_iff]
  constructor
  · intro h; rw [Nat.eq_of_beq_eq_true h]; simp
  · intro h; rw [eq_of_beq h]; exact Nat.beq_refl _
theorem nat_ble_eq (a b : Nat) : Nat.ble a b = decide (a ≤ b) := by
  rw [Bool.eq_iff_iff]; simp [Nat.ble_eq]
theorem nat_blt_eq (a b : Nat) : Nat.blt a b = decide (a < b) := by
  rw [Bool.eq_iff_iff]; simp [Nat.blt_eq]

theorem any_beq (l : List Nat) (b : Nat) : l.any (Nat.beq b) = (⟨l⟩ : Array Nat).contains b := by
  rw [Bool.eq_iff_iff, List.any_eq_true]
  simp only [List.contains_toArray, List.contains_iff_mem]
  constructor
  · rintro ⟨x, hx, hb⟩; rw [Nat.eq_of_beq_eq_true hb]; exact hx
  · intro hm; exact ⟨b, hm, Nat.beq_refl b⟩

theorem aNext_sim {t : TypeId} {x x' : Value} {isS : Bool} (hx : VRel Γ x x') : Sim P Γ (aNext x isS) (Instr.next x' isS t) VRel := by
  intro W h n w hS
  unfold aNext
  split
  · rename_i a
    cases hx with
    | ptr _ a' ha =>
      cases hoff : Nat.beq a.off 0 with
      | false => exact SimAt.fail
      | true =>
        have hoff := beq_true hoff
        simp only [cond_true]
        refine SimAt.get fun B hB => ?_
        obtain ⟨s, hblk, ho⟩ := ha.at_
        obtain ⟨b, s0, e, hBR, _⟩ := hS.live _ _ hB
        rw [hblk] at e
        obtain ⟨rfl, rfl⟩ : a'.block = b ∧ s = s0 := by simpa using e
        split
        · obtain ⟨rfl, m', h1, h2, _⟩ := hBR
          obtain rfl := h2 rfl
          have ha0 : a'.off = 0 := by omega
          refine SimAt.ok hS (b := .tuple #[.bool false]) ?_ (.tuple _ _ (.cons _ _ _ _ (.bool _) .nil))
          obtain ⟨ab, ao, asp⟩ := a'
          simp only at ha0 h1
          subst ha0
          simp [Instr.next, getObj, Sem.run, h1]
        · rename_i m since seen last _
          obtain ⟨rfl, m', h1, _, h3⟩ := hBR
          obtain ⟨r', rfl, hr⟩ := h3 m rfl
          have ha0 : a'.off = 0 := by omega
          refine SimAt.get fun C hC => ?_
          split
          · rename_i es clk
            obtain ⟨b, s, e, ⟨rfl, ents, g1, g2⟩, _⟩ := hS.live _ _ hC
            rw [hr] at e
            obtain ⟨rfl, _⟩ : r' = b ∧ 0 = 0 := by simpa using e
            obtain ⟨ab, ao, asp⟩ := a'
            simp only at ha0 h1
            subst ha0
            have hgo1 : (getObj ab).run P w = .ok (.mapIter (some r') since ⟨seen⟩ last) w := by simp [getObj, Sem.run, h1]
            have hgo2 : (getObj r').run P w = .ok (.map ents clk) w := by simp [getObj, Sem.run, g1]
            have hall : (ents.all fun e => decide (e.born ≥ last)) = es.all fun e => Nat.ble last e.2.2 := by
              rw [← g2.all (fun b => Nat.ble last b)]
              rw [← Array.all_toList]
              congr 1
              funext e
              exact (nat_ble_eq _ _).symm
            have hemp : ents.isEmpty = es.isEmpty := by
              have := g2.length
              rw [Bool.eq_iff_iff]
              simp only [Array.isEmpty_iff_size_eq_zero, List.isEmpty_iff_length_eq_zero]
              simp at this; omega
            cases hnew : (!seen.isEmpty && !es.isEmpty && es.all (fun e => Nat.ble last e.2.2)) with
            | true => exact SimAt.fail
            | false =>
              simp only [cond_false]
              have hnew' : ((!(⟨seen⟩ : Array Nat).isEmpty && !ents.isEmpty && ents.all fun e => decide (e.born ≥ last)) : Bool) = false := by
                rw [hall, hemp, ← hnew]; simp
              have hfil := g2.filter (fun b => !seen.any (Nat.beq b))
              have hleft : (ents.filter fun e => !(⟨seen⟩ : Array Nat).contains e.born).toList = ents.toList.filter fun e => !seen.any (Nat.beq e.born) := by
                simp only [Array.toList_filter]
                congr 1
                funext e
                rw [any_beq]
              split
              · rename_i hes
                rw [hes] at hfil
                have hnil : ents.filter (fun e => !(⟨seen⟩ : Array Nat).contains e.born) = #[] := by
                  apply Array.ext'
                  rw [hleft]
                  cases hq : ents.toList.filter fun e => !seen.any (Nat.beq e.born) with
                  | nil => rfl
                  | cons y ys => rw [hq] at hfil; cases hfil
                refine SimAt.ok hS (b := .tuple #[.bool false]) ?_ (.tuple _ _ (.cons _ _ _ _ (.bool _) .nil))
                simp only [Instr.next, Sem.run_bind, hgo1, Result.andThen_ok, hgo2, hnew', Bool.false_eq_true, if_false, hnil]
                simp [Question.forced]
              · rename_i en hes
                cases hlt : Nat.blt en.2.2 since with
                | false => exact SimAt.fail
                | true =>
                  have hlt : en.2.2 < since := Nat.blt_eq.mp hlt
                  simp only [cond_true]
                  rw [hes] at hfil
                  obtain ⟨y, hy, hky, hvy, hby⟩ : ∃ y, ents.toList.filter (fun e => !seen.any (Nat.beq e.born)) = [y] ∧ VRel Γ en.1 y.key ∧ VRel Γ en.2.1 y.val ∧ en.2.2 = y.born := by
                    cases hq : ents.toList.filter fun e => !seen.any (Nat.beq e.born) with
                    | nil => rw [hq] at hfil; cases hfil
                    | cons y ys =>
                      rw [hq] at hfil
                      cases hfil with
                      | cons _ _ _ _ h1 h2 h3 ht => cases ht; exact ⟨y, rfl, h1, h2, h3⟩
                  have hone : ents.filter (fun e => !(⟨seen⟩ : Array Nat).contains e.born) = #[y] := by
                    apply Array.ext'
                    rw [hleft, hy]
                  have hblk' : Γ.blk a.block = some (ab, 0) := hblk
                  have hS' := hS.setOther (B' := .iter (some m) since (seen ++ [en.2.2]) clk) (o := .mapIter (some r') since ⟨seen ++ [y.born]⟩ clk) hB hblk' trivial trivial
                    (fun w' ⟨_, m', q, _⟩ => ⟨_, q, rfl⟩) rfl (fun w' q => ⟨rfl, some r', by rw [hby]; exact q, (fun e => by cases e), (fun z e => by cases e; exact ⟨r', rfl, hr⟩)⟩)
                  refine SimAt.set (e' := pure (.tuple #[.bool true, y.key, y.val])) ?_ (SimAt.ok hS' rfl (.tuple _ _ (.cons _ _ _ _ (.bool _) (.cons _ _ _ _ hky (.cons _ _ _ _ hvy .nil)))))
                  have hso : ∀ o, (setObj ab o).run P w = .ok () { w with heap := w.heap.setIfInBounds ab o } := fun o => by simp [setObj, Sem.run, h1]
                  have hb1 : y.born < since := by omega
                  simp only [Instr.next, Sem.run_bind, hgo1, Result.andThen_ok, hgo2, hnew', Bool.false_eq_true, if_false, hone]
                  have f1 : (#[y] : Array MapEntry).filter (fun e => decide (e.born < since)) = #[y] := by simp [hb1]
                  have f2 : (#[y] : Array MapEntry).filter (fun e => decide (e.born ≥ since)) = #[] := by simp; omega
                  rw [f1, f2]
                  simp [Question.forced, hso]
              · exact SimAt.fail
          · exact SimAt.fail
        · exact SimAt.fail
  · exact SimAt.fail

theorem aEntry_sim {x x' : Value} (hx : VRel Γ x x') : Sim P Γ (aEntry x) (Instr.entry x') VRel := by
  intro W h n w hS
  unfold aEntry
  split
  · rename_i a
    cases hx with
    | ptr _ a' ha =>
      cases hoff : Nat.beq a.off 0 with
      | false => exact SimAt.fail
      | true =>
        have hoff := beq_true hoff
        simp only [cond_true]
        refine SimAt.get fun B hB => ?_
        obtain ⟨s, hblk, ho⟩ := ha.at_
        obtain ⟨b, s0, e, hBR, _⟩ := hS.live _ _ hB
        rw [hblk] at e
        obtain ⟨rfl, rfl⟩ : a'.block = b ∧ s = s0 := by simpa using e
        split
        · rename_i m since seen last _
          obtain ⟨rfl, m', h1, _, h3⟩ := hBR
          obtain ⟨r', rfl, hr⟩ := h3 m rfl
          have ha0 : a'.off = 0 := by omega
          split
          · rename_i stamp hst
            refine SimAt.get fun C hC => ?_
            split
            · rename_i es clk
              obtain ⟨b, s, e, ⟨rfl, ents, g1, g2⟩, _⟩ := hS.live _ _ hC
              rw [hr] at e
              obtain ⟨rfl, _⟩ : r' = b ∧ 0 = 0 := by simpa using e
              cases hc : Nat.beq clk last with
              | false => exact SimAt.fail
              | true =>
                have hc := beq_true hc
                subst hc
                simp only [cond_true]
                split
                · rename_i en hen
                  obtain ⟨y, hy, hk, hv⟩ := g2.find (fun b => Nat.beq b stamp) en hen
                  refine SimAt.ok hS (b := .tuple #[y.key, y.val]) ?_ (.tuple _ _ (.cons _ _ _ _ hk (.cons _ _ _ _ hv .nil)))
                  obtain ⟨ab, ao, asp⟩ := a'
                  simp only at ha0 h1
                  subst ha0
                  have hgo1 : (getObj ab).run P w = .ok (.mapIter (some r') since ⟨seen⟩ clk) w := by simp [getObj, Sem.run, h1]
                  have hgo2 : (getObj r').run P w = .ok (.map ents clk) w := by simp [getObj, Sem.run, g1]
                  have hback : (⟨seen⟩ : Array Nat).back? = some stamp := by simpa using hst
                  have hfind : ents.find? (fun e => e.born == stamp) = some y := by
                    rw [← Array.find?_toList, ← hy]; congr 1; funext e; exact (nat_beq_eq _ _).symm
                  simp [Instr.entry, hgo1, hgo2, hback, hfind]
                · exact SimAt.fail
            · exact SimAt.fail
          · exact SimAt.fail
        · exact SimAt.fail
  · exact SimAt.fail

end
end Go.Am
