/-
  A part of the proof: contracts of inner functions.
-/
import Derived.Test.YtbceiadaihphaaaGreatAmM
import Derived.KernelRfl
/-
 The abstract machine: the operations' simulations: ranges over maps, clear, atomic operations; receivers and methods; the call's target; the operation whole.
-/
set_option linter.unusedSimpArgs false
set_option linter.unusedVariables false
namespace Go.Am
open Go.RowKit
section
variable {P : Program} {Γ : Emb} {W w : World} {h : PT ABlk} {n : Nat}
theorem aRange_sim {t : TypeId} {x x' : Value} (hx : VRel Γ x x') : Sim P Γ (aRange P t x) (Instr.range t x') VRel := by
 intro W h n w hS
 unfold aRange
 split
 ·rename_i k e hd
  cases hx
  refine SimAt.new fun hn => ?_
  obtain ⟨Γ', hst, hb, hS'⟩ := hS.allocOther hn (.mapIter none 0 #[] 0) (.iter none 0 [] 0) rfl (fun Γ' w' _ h1 => ⟨rfl, none, h1, fun _ => rfl, fun r e => by cases e⟩)
  refine ⟨Γ', _, pure (.pointer (some ⟨w.heap.size, 0, none⟩)), hst, ?_, SimAt.ok hS' rfl (.ptr _ _ ⟨rfl, rfl, 0, hb, rfl⟩)⟩
  simp [Instr.range, run_und hd]
 ·rename_i k e r hd
  cases hx with
  | map _ r' hr =>
   refine SimAt.get fun B hB => ?_
   split
   ·rename_i es clk
    obtain ⟨b, s, e, ⟨rfl, ents, h1, h2⟩, _⟩ := hS.live _ _ hB
    rw [hr] at e
    obtain ⟨rfl, _⟩ : r' = b ∧ 0 = 0 := by simpa using e
    refine SimAt.new fun hn => ?_
    obtain ⟨Γ', hst, hb, hS'⟩ := hS.allocOther hn (.mapIter (some r') clk #[] clk) (.iter (some r) clk [] clk) rfl
     (fun Γ' w' hle h1 => ⟨rfl, some r', h1, (fun e => by cases e), (fun q e => by cases e; exact ⟨r', rfl, hle.blk _ _ hr⟩)⟩)
    refine ⟨Γ', _, pure (.pointer (some ⟨w.heap.size, 0, none⟩)), hst, ?_, SimAt.ok hS' rfl (.ptr _ _ ⟨rfl, rfl, 0, hb, rfl⟩)⟩
    have hgo : (getObj r').run P w = .ok (.map ents clk) w := by simp [getObj, Sem.run, h1]
    simp [Instr.range, run_und hd, hgo]
   ·exact SimAt.fail
 ·exact SimAt.fail
theorem PRels.filter (p : Nat → Bool) : ∀ {es : List (Value × Value × Nat)} {ents : List MapEntry}, PRels Γ es ents → PRels Γ (es.filter fun e => p e.2.2) (ents.filter fun e => p e.born)
 | _, _, .nil => .nil
 | _, _, .cons a e l l' h1 h2 hb t => by
  have ih := PRels.filter p t
  simp only [List.filter_cons, ← hb]
  split
  ·exact .cons a e _ _ h1 h2 hb ih
  ·exact ih
theorem PRels.all (p : Nat → Bool) : ∀ {es : List (Value × Value × Nat)} {ents : List MapEntry}, PRels Γ es ents → (ents.all fun e => p e.born) = es.all fun e => p e.2.2
 | _, _, .nil => rfl
 | _, _, .cons a e l l' h1 h2 hb t => by
  simp only [List.all_cons, ← hb, PRels.all p t]
theorem PRels.find (p : Nat → Bool) : ∀ {es : List (Value × Value × Nat)} {ents : List MapEntry}, PRels Γ es ents → ∀ a, (es.find? fun e => p e.2.2) = some a →
  ∃ e, (ents.find? fun e => p e.born) = some e ∧ VRel Γ a.1 e.key ∧ VRel Γ a.2.1 e.val
 | _, _, .nil, a, h => by simp at h
 | _, _, .cons a e l l' h1 h2 hb t, x, h => by
  simp only [List.find?_cons, ← hb] at h ⊢
  split at h
  ·obtain rfl := Option.some.inj h
   exact ⟨e, by simp_all, h1, h2⟩
  ·obtain ⟨e', he, hr⟩ := PRels.find p t x h
   exact ⟨e', by simp_all, hr⟩
theorem nat_beq_eq (a b : Nat) : Nat.beq a b = (a == b) := by
 rw [Bool.eq_iff_iff]
 constructor
 ·intro h; rw [Nat.eq_of_beq_eq_true h]; simp
 ·intro h; rw [eq_of_beq h]; exact Nat.beq_refl _
theorem nat_ble_eq (a b : Nat) : Nat.ble a b = decide (a ≤ b) := by
 rw [Bool.eq_iff_iff]; simp [Nat.ble_eq]
theorem any_beq (l : List Nat) (b : Nat) : l.any (Nat.beq b) = (⟨l⟩ : Array Nat).contains b := by
 rw [Bool.eq_iff_iff, List.any_eq_true]
 simp only [List.contains_toArray, List.contains_iff_mem]
 constructor
 ·rintro ⟨x, hx, hb⟩; rw [Nat.eq_of_beq_eq_true hb]; exact hx
 ·intro hm; exact ⟨b, hm, Nat.beq_refl b⟩
theorem aNext_sim {t : TypeId} {x x' : Value} {isS : Bool} (hx : VRel Γ x x') : Sim P Γ (aNext x isS) (Instr.next x' isS t) VRel := by
 intro W h n w hS
 unfold aNext
 split
 ·rename_i a
  cases hx with
  | ptr _ a' ha =>
   cases hoff : Nat.beq a.off 0 with
   | false => exact SimAt.fail
   | true =>
    have hoff := beq_true hoff
    simp only [cond_true]
    refine SimAt.get fun B hB => ?_
    obtain ⟨s, hblk, ho⟩ := ha.at_
    obtain ⟨b, s0, e, hBR, _⟩ := hS.live _ _ hB
    rw [hblk] at e
    obtain ⟨rfl, rfl⟩ : a'.block = b ∧ s = s0 := by simpa using e
    split
    ·obtain ⟨rfl, m', h1, h2, _⟩ := hBR
     obtain rfl := h2 rfl
     have ha0 : a'.off = 0 := by omega
     refine SimAt.ok hS (b := .tuple #[.bool false]) ?_ (.tuple _ _ (.cons _ _ _ _ (.bool _) .nil))
     obtain ⟨ab, ao, asp⟩ := a'
     simp only at ha0 h1
     subst ha0
     simp [Instr.next, getObj, Sem.run, h1]
    ·rename_i m since seen last _
     obtain ⟨rfl, m', h1, _, h3⟩ := hBR
     obtain ⟨r', rfl, hr⟩ := h3 m rfl
     have ha0 : a'.off = 0 := by omega
     refine SimAt.get fun C hC => ?_
     split
     ·rename_i es clk
      obtain ⟨b, s, e, ⟨rfl, ents, g1, g2⟩, _⟩ := hS.live _ _ hC
      rw [hr] at e
      obtain ⟨rfl, _⟩ : r' = b ∧ 0 = 0 := by simpa using e
      obtain ⟨ab, ao, asp⟩ := a'
      simp only at ha0 h1
      subst ha0
      have hgo1 : (getObj ab).run P w = .ok (.mapIter (some r') since ⟨seen⟩ last) w := by simp [getObj, Sem.run, h1]
      have hgo2 : (getObj r').run P w = .ok (.map ents clk) w := by simp [getObj, Sem.run, g1]
      have hall : (ents.all fun e => decide (e.born ≥ last)) = es.all fun e => Nat.ble last e.2.2 := by
       rw [← g2.all (fun b => Nat.ble last b)]
       rw [← Array.all_toList]
       congr 1
       funext e
       exact (nat_ble_eq _ _).symm
      have hemp : ents.isEmpty = es.isEmpty := by
       have := g2.length
       rw [Bool.eq_iff_iff]
       simp only [Array.isEmpty_iff_size_eq_zero, List.isEmpty_iff_length_eq_zero]
       simp at this; omega
      cases hnew : (!seen.isEmpty && !es.isEmpty && es.all (fun e => Nat.ble last e.2.2)) with
      | true => exact SimAt.fail
      | false =>
       simp only [cond_false]
       have hnew' : ((!(⟨seen⟩ : Array Nat).isEmpty && !ents.isEmpty && ents.all fun e => decide (e.born ≥ last)) : Bool) = false := by
        rw [hall, hemp, ← hnew]; simp
       have hfil := g2.filter (fun b => !seen.any (Nat.beq b))
       have hleft : (ents.filter fun e => !(⟨seen⟩ : Array Nat).contains e.born).toList = ents.toList.filter fun e => !seen.any (Nat.beq e.born) := by
        simp only [Array.toList_filter]
        congr 1
        funext e
        rw [any_beq]
       split
       ·rename_i hes
        rw [hes] at hfil
        have hnil : ents.filter (fun e => !(⟨seen⟩ : Array Nat).contains e.born) = #[] := by
         apply Array.ext'
         rw [hleft]
         cases hq : ents.toList.filter fun e => !seen.any (Nat.beq e.born) with
         | nil => rfl
         | cons y ys => rw [hq] at hfil; cases hfil
        refine SimAt.ok hS (b := .tuple #[.bool false]) ?_ (.tuple _ _ (.cons _ _ _ _ (.bool _) .nil))
        simp only [Instr.next, Sem.run_bind, hgo1, Result.andThen_ok, hgo2, hnew', Bool.false_eq_true, if_false, hnil]
        simp [Question.forced]
       ·rename_i en hes
        cases hlt : Nat.blt en.2.2 since with
        | false => exact SimAt.fail
        | true =>
         have hlt : en.2.2 < since := Nat.blt_eq.mp hlt
         simp only [cond_true]
         rw [hes] at hfil
         obtain ⟨y, hy, hky, hvy, hby⟩ : ∃ y, ents.toList.filter (fun e => !seen.any (Nat.beq e.born)) = [y] ∧ VRel Γ en.1 y.key ∧ VRel Γ en.2.1 y.val ∧ en.2.2 = y.born := by
          cases hq : ents.toList.filter fun e => !seen.any (Nat.beq e.born) with
          | nil => rw [hq] at hfil; cases hfil
          | cons y ys =>
           rw [hq] at hfil
           cases hfil with
           | cons _ _ _ _ h1 h2 h3 ht => cases ht; exact ⟨y, rfl, h1, h2, h3⟩
         have hone : ents.filter (fun e => !(⟨seen⟩ : Array Nat).contains e.born) = #[y] := by
          apply Array.ext'
          rw [hleft, hy]
         have hblk' : Γ.blk a.block = some (ab, 0) := hblk
         have hS' := hS.setOther (B' := .iter (some m) since (seen ++ [en.2.2]) clk) (o := .mapIter (some r') since ⟨seen ++ [y.born]⟩ clk) hB hblk' trivial trivial
          (fun w' ⟨_, m', q, _⟩ => ⟨_, q, rfl⟩) rfl (fun w' q => ⟨rfl, some r', by rw [hby]; exact q, (fun e => by cases e), (fun z e => by cases e; exact ⟨r', rfl, hr⟩)⟩)
         refine SimAt.set (e' := pure (.tuple #[.bool true, y.key, y.val])) ?_ (SimAt.ok hS' rfl (.tuple _ _ (.cons _ _ _ _ (.bool _) (.cons _ _ _ _ hky (.cons _ _ _ _ hvy .nil)))))
         have hso : ∀ o, (setObj ab o).run P w = .ok () { w with heap := w.heap.setIfInBounds ab o } := fun o => by simp [setObj, Sem.run, h1]
         have hb1 : y.born < since := by omega
         simp only [Instr.next, Sem.run_bind, hgo1, Result.andThen_ok, hgo2, hnew', Bool.false_eq_true, if_false, hone]
         have f1 : (#[y] : Array MapEntry).filter (fun e => decide (e.born < since)) = #[y] := by simp [hb1]
         have f2 : (#[y] : Array MapEntry).filter (fun e => decide (e.born ≥ since)) = #[] := by simp; omega
         rw [f1, f2]
         simp [Question.forced, hso]
       ·exact SimAt.fail
     ·exact SimAt.fail
    ·exact SimAt.fail
 ·exact SimAt.fail
theorem aEntry_sim {x x' : Value} (hx : VRel Γ x x') : Sim P Γ (aEntry x) (Instr.entry x') VRel := by
 intro W h n w hS
 unfold aEntry
 split
 ·rename_i a
  cases hx with
  | ptr _ a' ha =>
   cases hoff : Nat.beq a.off 0 with
   | false => exact SimAt.fail
   | true =>
    have hoff := beq_true hoff
    simp only [cond_true]
    refine SimAt.get fun B hB => ?_
    obtain ⟨s, hblk, ho⟩ := ha.at_
    obtain ⟨b, s0, e, hBR, _⟩ := hS.live _ _ hB
    rw [hblk] at e
    obtain ⟨rfl, rfl⟩ : a'.block = b ∧ s = s0 := by simpa using e
    split
    ·rename_i m since seen last _
     obtain ⟨rfl, m', h1, _, h3⟩ := hBR
     obtain ⟨r', rfl, hr⟩ := h3 m rfl
     have ha0 : a'.off = 0 := by omega
     split
     ·rename_i stamp hst
      refine SimAt.get fun C hC => ?_
      split
      ·rename_i es clk
       obtain ⟨b, s, e, ⟨rfl, ents, g1, g2⟩, _⟩ := hS.live _ _ hC
       rw [hr] at e
       obtain ⟨rfl, _⟩ : r' = b ∧ 0 = 0 := by simpa using e
       cases hc : Nat.beq clk last with
       | false => exact SimAt.fail
       | true =>
        have hc := beq_true hc
        subst hc
        simp only [cond_true]
        split
        ·rename_i en hen
         obtain ⟨y, hy, hk, hv⟩ := g2.find (fun b => Nat.beq b stamp) en hen
         refine SimAt.ok hS (b := .tuple #[y.key, y.val]) ?_ (.tuple _ _ (.cons _ _ _ _ hk (.cons _ _ _ _ hv .nil)))
         obtain ⟨ab, ao, asp⟩ := a'
         simp only at ha0 h1
         subst ha0
         have hgo1 : (getObj ab).run P w = .ok (.mapIter (some r') since ⟨seen⟩ clk) w := by simp [getObj, Sem.run, h1]
         have hgo2 : (getObj r').run P w = .ok (.map ents clk) w := by simp [getObj, Sem.run, g1]
         have hback : (⟨seen⟩ : Array Nat).back? = some stamp := by simpa using hst
         have hfind : ents.find? (fun e => e.born == stamp) = some y := by
          rw [← Array.find?_toList, ← hy]; congr 1; funext e; exact (nat_beq_eq _ _).symm
         simp [Instr.entry, hgo1, hgo2, hback, hfind]
        ·exact SimAt.fail
      ·exact SimAt.fail
     ·exact SimAt.fail
    ·exact SimAt.fail
 ·exact SimAt.fail
end
end Go.Am
/-
 The abstract machine: the atomic operations' rows among the model's externs; their simulations; clear.
-/
set_option linter.unusedSimpArgs false
set_option linter.unusedVariables false
namespace Go.Am
open Go.RowKit
theorem next_empty : Extern.allNextRows.lookup "" = none := by kernel_rfl
theorem next_load : Extern.allNextRows.lookup "sync/atomic.LoadUint64" = none := by kernel_rfl
theorem next_store : Extern.allNextRows.lookup "sync/atomic.StoreUint64" = none := by kernel_rfl
theorem next_swap : Extern.allNextRows.lookup "sync/atomic.SwapUint64" = none := by kernel_rfl
theorem next_cas : Extern.allNextRows.lookup "sync/atomic.CompareAndSwapUint64" = none := by kernel_rfl
theorem next_add : Extern.allNextRows.lookup "sync/atomic.AddUint64" = none := by kernel_rfl
theorem gen_load : Extern.allGenericRows.lookup "sync/atomic.LoadUint64" = none := by kernel_rfl
theorem gen_store : Extern.allGenericRows.lookup "sync/atomic.StoreUint64" = none := by kernel_rfl
theorem gen_swap : Extern.allGenericRows.lookup "sync/atomic.SwapUint64" = none := by kernel_rfl
theorem gen_cas : Extern.allGenericRows.lookup "sync/atomic.CompareAndSwapUint64" = none := by kernel_rfl
theorem gen_add : Extern.allGenericRows.lookup "sync/atomic.AddUint64" = none := by kernel_rfl
theorem typed_load : Extern.allTypedRows.lookup "sync/atomic.LoadUint64" = none := by kernel_rfl
theorem typed_store : Extern.allTypedRows.lookup "sync/atomic.StoreUint64" = none := by kernel_rfl
theorem typed_swap : Extern.allTypedRows.lookup "sync/atomic.SwapUint64" = none := by kernel_rfl
theorem typed_cas : Extern.allTypedRows.lookup "sync/atomic.CompareAndSwapUint64" = none := by kernel_rfl
theorem typed_add : Extern.allTypedRows.lookup "sync/atomic.AddUint64" = none := by kernel_rfl
theorem row_load : Extern.allRows.lookup "sync/atomic.LoadUint64" = some (Extern.Atomic.loadT (.int .u64)) := by kernel_rfl
theorem row_store : Extern.allRows.lookup "sync/atomic.StoreUint64" = some Extern.Atomic.storeT := by kernel_rfl
theorem row_swap : Extern.allRows.lookup "sync/atomic.SwapUint64" = some (Extern.Atomic.swapT (.int .u64)) := by kernel_rfl
theorem row_cas : Extern.allRows.lookup "sync/atomic.CompareAndSwapUint64" = some (Extern.Atomic.casT (.int .u64)) := by kernel_rfl
theorem row_add : Extern.allRows.lookup "sync/atomic.AddUint64" = some (Extern.Atomic.update (Op.intArith .add) .u64 true) := by kernel_rfl
def atomicSem : Atomic → Array Value → Sem Value
 | .load => Extern.Atomic.loadT (.int .u64)
 | .store => Extern.Atomic.storeT
 | .swap => Extern.Atomic.swapT (.int .u64)
 | .cas => Extern.Atomic.casT (.int .u64)
 | .add => Extern.Atomic.update (Op.intArith .add) .u64 true
open Extern.Atomic in
theorem loadT_eq (x : Value) : atomicSem .load ⟨[x]⟩ = (do read (.int .u64) (← asAddr x)) := rfl
open Extern.Atomic in
theorem storeT_eq (x v : Value) : atomicSem .store ⟨[x, v]⟩ = (do store (← asAddr x) v .atomic; pure none_) := rfl
open Extern.Atomic in
theorem swapT_eq (x v : Value) : atomicSem .swap ⟨[x, v]⟩ = (do let a ← asAddr x; let old ← read (.int .u64) a; store a v .atomic; pure old) := rfl
open Extern.Atomic in
theorem addT_eq (x v : Value) : atomicSem .add ⟨[x, v]⟩ = (do let a ← asAddr x; let old ← read (.int .u64) a; let new ← Op.intArith .add .u64 (← asInt old) (← asInt v); store a new .atomic; pure new) := rfl
open Extern.Atomic in
theorem casT_eq (x o v : Value) : atomicSem .cas ⟨[x, o, v]⟩ = (do
  let a ← asAddr x
  if ← touchesFrozen a then unsupported (.unsafePointer "a write to bytes that a string shares")
  let eq ← match T.int .u64, ← read (.int .u64) a, o with
   | _, .int _ x, .int _ y => pure (x == y)
   | .ptr, .pointer x, .pointer y => samePointer x y
   | .int _, .pointer (some _), .int _ 0 | .int _, .int _ 0, .pointer (some _) => pure false
   | .int _, .pointer (some _), _ | .int _, _, .pointer (some _) => unsupported .addressObserved
   | _, _, _ => stuck "atomic.CompareAndSwap: old is no T"
  if eq then store a v .atomic
  pure (.bool eq)) := rfl
section
variable {P : Program} {Γ : Emb} {W w : World} {h : PT ABlk} {n : Nat}
theorem next_atomic (k : Atomic) : Extern.allNextRows.lookup (atomicName k) = none := by
 cases k
 ·exact next_load
 ·exact next_store
 ·exact next_swap
 ·exact next_cas
 ·exact next_add
theorem find_atomic (k : Atomic) : Extern.allGenericRows.lookup (atomicName k) = none ∧ Extern.allTypedRows.lookup (atomicName k) = none ∧ Extern.allRows.lookup (atomicName k) = some (atomicSem k) := by
 cases k
 ·exact ⟨gen_load, typed_load, row_load⟩
 ·exact ⟨gen_store, typed_store, row_store⟩
 ·exact ⟨gen_swap, typed_swap, row_swap⟩
 ·exact ⟨gen_cas, typed_cas, row_cas⟩
 ·exact ⟨gen_add, typed_add, row_add⟩
theorem extern_run {f : FuncId} {fn : Func} {k : Atomic} (hf : P.funcs[f]? = some fn) (hb : fn.body.isSome = false) (hn : fn.name = atomicName k) (ho : fn.origin = atomicName k ∨ fn.origin = "") (args : Array Value) (w : World) :
  (callFunc f args).run P w = ((atomicSem k args).run P w).andThen fun v w' => .ok (.value v) w' := by
 have hnum : (fn.name == "runtime.NumGoroutine") = false := by rw [hn]; cases k <;> decide
 have hb' : fn.body.isNone = true := by cases hbb : fn.body with | none => rfl | some c => rw [hbb] at hb; simp at hb
 have hfn : Extern.findNext fn = none := by
  unfold Extern.findNext
  rw [hn]
  simp only [next_atomic k, Option.map_none]
  rcases ho with ho | ho
  ·rw [ho]; simp [next_atomic k]
  ·rw [ho]; simp [next_empty]
 obtain ⟨h1, h2, h3⟩ := find_atomic k
 have hfd : Extern.find fn = some (atomicSem k) := by
  unfold Extern.find
  rw [hn]
  simp only [h1, h2, h3, Option.map_none]
  simp
 unfold callFunc
 simp only [Sem.run_bind, run_program, Result.andThen_ok, hf, hnum, Bool.false_eq_true, if_false, hb', if_true, run_mark, hfn, hfd, Sem.run_pure]
theorem aAtomic_sim (k : Atomic) {args args' : List Value} (ha : VRels Γ args args') : Sim P Γ (aAtomic k args) (atomicSem k ⟨args'⟩) VRel := by
 intro W h n w hS
 have hword : ∀ (c : PT Value) (a : Addr) (m : Int), wordOf c a = some m → c.get a.off = some (.int .u64 m) := by
  intro c a m hw
  unfold wordOf at hw
  split at hw
  ·rename_i hc; obtain rfl := Option.some.inj hw; exact hc
  ·simp at hw
 have hcell : ∀ {a a' : Addr} {c : PT Value} {ro : Bool} {m : Int}, Γ.addr a a' → h.get a.block = some (.cells c ro) → wordOf c a = some m → w.cell? a' = some (.int .u64 m) := by
  intro a a' c ro m haa hb hw
  obtain ⟨v', e, r⟩ := hS.cell0 hb (hword _ _ _ hw) haa rfl
  cases r; exact e
 have hfroz : ∀ {a a' : Addr} {c : PT Value}, Γ.addr a a' → h.get a.block = some (.cells c false) → w.frozen? a' = false := by
  intro a a' c haa hb
  have := hS.frozen hb haa rfl 0
  simpa [Addr.add] using this
 have hset : ∀ {a a' : Addr} {c : PT Value} {m : Int} (v : Int), Γ.addr a a' → h.get a.block = some (.cells c false) → wordOf c a = some m →
   SRel Γ W (h.set a.block (some (.cells (c.set a.off (some (.int .u64 v))) false))) (w.setCell a' (.int .u64 v)) := by
  intro a a' c m v haa hb hw
  exact hS.setCell hb haa rfl (.int _ _) (by rw [hword _ _ _ hw]; rfl)
 have hshape : ∀ {a a' : Addr} {c : PT Value}, Γ.addr a a' → h.get a.block = some (.cells c false) → (w.shape? a'.block).isSome = true := by
  intro a a' c haa hb
  obtain ⟨_, _, _, ⟨cs, el, fz, h1, _, _⟩, _⟩ := hS.block hb haa rfl
  simp [World.shape?, h1]
 unfold aAtomic
 split
 ·rename_i a
  cases ha with
  | cons _ _ _ _ hp ht =>
   cases ht
   cases hp with
   | ptr _ a' haa =>
    refine SimAt.get fun B hB => ?_
    split
    ·rename_i c ro
     split
     ·rename_i m hm
      refine SimAt.ok hS (b := .int .u64 m) ?_ (.int _ _)
      simp [loadT_eq, Extern.Atomic.read, asAddr, hcell haa hB hm]
     ·exact SimAt.fail
    ·exact SimAt.fail
 ·rename_i a v
  cases ha with
  | cons _ _ _ _ hp ht =>
   cases ht with
   | cons _ _ _ _ hv ht =>
    cases ht; cases hv
    cases hp with
    | ptr _ a' haa =>
     refine SimAt.get fun B hB => ?_
     split
     ·rename_i c
      split
      ·rename_i m hm
       refine SimAt.set (e' := pure (.tuple #[])) ?_ (SimAt.ok (hset v haa hB hm) rfl (.tuple _ _ .nil))
       simp [storeT_eq, asAddr, run_store P w a' (.int .u64 v) .atomic rfl, hcell haa hB hm, hfroz haa hB, Extern.Atomic.none_]
      ·exact SimAt.fail
     ·exact SimAt.fail
 ·rename_i a v
  cases ha with
  | cons _ _ _ _ hp ht =>
   cases ht with
   | cons _ _ _ _ hv ht =>
    cases ht; cases hv
    cases hp with
    | ptr _ a' haa =>
     refine SimAt.get fun B hB => ?_
     split
     ·rename_i c
      split
      ·rename_i m hm
       refine SimAt.set (e' := pure (.int .u64 m)) ?_ (SimAt.ok (hset v haa hB hm) rfl (.int _ _))
       simp [swapT_eq, Extern.Atomic.read, asAddr, run_store P w a' (.int .u64 v) .atomic rfl, hcell haa hB hm, hfroz haa hB]
      ·exact SimAt.fail
     ·exact SimAt.fail
 ·rename_i a o v
  cases ha with
  | cons _ _ _ _ hp ht =>
   cases ht with
   | cons _ _ _ _ ho ht =>
    cases ht with
    | cons _ _ _ _ hv ht =>
     cases ht; cases hv; cases ho
     cases hp with
     | ptr _ a' haa =>
      refine SimAt.get fun B hB => ?_
      split
      ·rename_i c
       split
       ·rename_i m hm
        have htf : ∀ w', w' = w → (Extern.Atomic.touchesFrozen a').run P w' = .ok false w := by
         rintro w' rfl
         simp [Extern.Atomic.touchesFrozen, viewAt, hshape haa hB, hfroz haa hB]
        cases heq : m == o with
        | true =>
         have heq : m = o := by simpa using heq
         refine SimAt.set (e' := pure (.bool true)) ?_ (SimAt.ok (hset v haa hB hm) rfl (.bool _))
         simp [casT_eq, Extern.Atomic.read, asAddr, htf w rfl, hcell haa hB hm, heq, run_store P w a' (.int .u64 v) .atomic rfl, hfroz haa hB]
        | false =>
         have heq : ¬ m = o := by simpa using heq
         refine SimAt.ok hS (b := .bool false) ?_ (.bool _)
         simp [casT_eq, Extern.Atomic.read, asAddr, htf w rfl, hcell haa hB hm, heq]
       ·exact SimAt.fail
      ·exact SimAt.fail
 ·rename_i a v
  cases ha with
  | cons _ _ _ _ hp ht =>
   cases ht with
   | cons _ _ _ _ hv ht =>
    cases ht; cases hv
    cases hp with
    | ptr _ a' haa =>
     refine SimAt.get fun B hB => ?_
     split
     ·rename_i c
      split
      ·rename_i m hm
       refine SimAt.set (e' := pure (.int .u64 (IntKind.u64.wrap (m + v)))) ?_ (SimAt.ok (hset _ haa hB hm) rfl (.int _ _))
       simp [addT_eq, Extern.Atomic.read, asAddr, asInt, asIntOf, Op.intArith, run_store P w a' (.int .u64 (IntKind.u64.wrap (m + v))) .atomic rfl, hcell haa hB hm, hfroz haa hB]
      ·exact SimAt.fail
     ·exact SimAt.fail
 ·exact SimAt.fail
theorem zeroCells_rep (z : Array Value) (k : Nat) (hz : 0 < z.size) : Builtin.zeroCells z k = ⟨rep z.toList k⟩ := rep_array z k hz
theorem aClear_sim {ts : Array TypeId} {ty : TypeId} {args args' : List Value} (ha : VRels Γ args args') : Sim P Γ (aClear P ts.toList args) (Builtin.clear_ ts ty ⟨args'⟩) VRel := by
 intro W h n w hS
 unfold aClear
 split
 ·rename_i t tr k c rest hts
  obtain ⟨tl⟩ := ts
  obtain rfl : tl = t :: tr := hts
  cases ha with
  | cons _ _ _ _ hx ha =>
   cases hx
   split
   ·rename_i d hd
    exact SimAt.ok hS (b := .tuple #[]) (by simp [Builtin.clear_, run_und hd]) (.tuple _ _ .nil)
   ·exact SimAt.fail
 ·rename_i t tr a k c rest hts
  obtain ⟨tl⟩ := ts
  obtain rfl : tl = t :: tr := hts
  cases ha with
  | cons _ _ _ _ hx ha =>
   cases hx with
   | slice _ a' _ _ c' ha0 hc =>
    split
    ·rename_i e hd
     cases hk : Nat.beq k 0 with
     | true =>
      have hk := beq_true hk
      subst hk
      exact SimAt.ok hS (b := .tuple #[]) (by simp [Builtin.clear_, run_und hd]) (.tuple _ _ .nil)
     | false =>
      have hk : k ≠ 0 := fun e => by rw [e] at hk; exact Bool.noConfusion hk
      have haa := ha0.exact (.inl (by omega))
      simp only [cond_false]
      split
      ·rename_i i z hi hz
       obtain ⟨hzr, hzz⟩ := zeroOf_spec hz
       cases hpos : Nat.blt 0 z.cells.toList.length with
       | false => exact SimAt.fail
       | true =>
        have hpos : 0 < z.cells.toList.length := Nat.blt_eq.mp hpos
        simp only [cond_true]
        refine SimAt.get fun B hB => ?_
        split
        ·rename_i cc
         split
         ·rename_i c2 hc2
          obtain ⟨w', hr, hS'⟩ := storeCells_sim (P := P) (i := a.block) (a := a) (a' := a') rfl _ _ cc c2 0 h w haa hS hB ((hzz Γ).cells.rep k) (by simpa using hc2)
          refine SimAt.set (w' := w') (e' := pure (.tuple #[])) ?_ (SimAt.ok hS' rfl (.tuple _ _ .nil))
          have hzc := zeroCells_rep z.cells k (by simpa using hpos)
          simp [Builtin.clear_, run_und hd, hk, hzr, hzc, hr]
         ·exact SimAt.fail
        ·exact SimAt.fail
      ·exact SimAt.fail
    ·exact SimAt.fail
 ·exact SimAt.fail
end
end Go.Am
