/-
  The abstract machine: the atomic operations' rows among the model's externs; their simulations; clear.
-/
import Derived.Test.YtapcgfakefmemaaAmN
set_option linter.unusedSimpArgs false
set_option linter.unusedVariables false
namespace Go.Am
open Go.RowKit

theorem next_empty : Extern.allNextRows.lookup "" = none := by kernel_rfl
theorem next_load : Extern.allNextRows.lookup "sync/atomic.LoadUint64" = none := by kernel_rfl
theorem next_store : Extern.allNextRows.lookup "sync/atomic.StoreUint64" = none := by kernel_rfl
theorem next_swap : Extern.allNextRows.lookup "sync/atomic.SwapUint64" = none := by kernel_rfl
theorem next_cas : Extern.allNextRows.lookup "sync/atomic.CompareAndSwapUint64" = none := by kernel_rfl
theorem next_add : Extern.allNextRows.lookup "sync/atomic.AddUint64" = none := by kernel_rfl
theorem gen_load : Extern.allGenericRows.lookup "sync/atomic.LoadUint64" = none := by kernel_rfl
theorem gen_store : Extern.allGenericRows.lookup "sync/atomic.StoreUint64" = none := by kernel_rfl
theorem gen_swap : Extern.allGenericRows.lookup "sync/atomic.SwapUint64" = none := by kernel_rfl
theorem gen_cas : Extern.allGenericRows.lookup "sync/atomic.CompareAndSwapUint64" = none := by kernel_rfl
theorem gen_add : Extern.allGenericRows.lookup "sync/atomic.AddUint64" = none := by kernel_rfl
theorem typed_load : Extern.allTypedRows.lookup "sync/atomic.LoadUint64" = none := by kernel_rfl
theorem typed_store : Extern.allTypedRows.lookup "sync/atomic.StoreUint64" = none := by kernel_rfl
theorem typed_swap : Extern.allTypedRows.lookup "sync/atomic.SwapUint64" = none := by kernel_rfl
theorem typed_cas : Extern.allTypedRows.lookup "sync/atomic.CompareAndSwapUint64" = none := by kernel_rfl
theorem typed_add : Extern.allTypedRows.lookup "sync/atomic.AddUint64" = none := by kernel_rfl
theorem row_load : Extern.allRows.lookup "sync/atomic.LoadUint64" = some (Extern.Atomic.loadT (.int .u64)) := by kernel_rfl
theorem row_store : Extern.allRows.lookup "sync/atomic.StoreUint64" = some Extern.Atomic.storeT := by kernel_rfl
theorem row_swap : Extern.allRows.lookup "sync/atomic.SwapUint64" = some (Extern.Atomic.swapT (.int .u64)) := by kernel_rfl
theorem row_cas : Extern.allRows.lookup "sync/atomic.CompareAndSwapUint64" = some (Extern.Atomic.casT (.int .u64)) := by kernel_rfl
theorem row_add : Extern.allRows.lookup "sync/atomic.AddUint64" = some (Extern.Atomic.update (Op.intArith .add) .u64 true) := by kernel_rfl

def atomicSem : Atomic → Array Value → Sem Value
  | .load => Extern.Atomic.loadT (.int .u64)
  | .store => Extern.Atomic.storeT
  | .swap => Extern.Atomic.swapT (.int .u64)
  | .cas => Extern.Atomic.casT (.int .u64)
  | .add => Extern.Atomic.update (Op.intArith .add) .u64 true

open Extern.Atomic in
theorem loadT_eq (x : Value) : atomicSem .load ⟨[x]⟩ = (do read (.int .u64) (← asAddr x)) := rfl
open Extern.Atomic in
theorem storeT_eq (x v : Value) : atomicSem .store ⟨[x, v]⟩ = (do store (← asAddr x) v .atomic; pure none_) := rfl
open Extern.Atomic in
theorem swapT_eq (x v : Value) : atomicSem .swap ⟨[x, v]⟩ = (do let a ← asAddr x; let old ← read (.int .u64) a; store a v .atomic; pure old) := rfl
open Extern.Atomic in
theorem addT_eq (x v : Value) : atomicSem .add ⟨[x, v]⟩ = (do let a ← asAddr x; let old ← read (.int .u64) a; let new ← Op.intArith .add .u64 (← asInt old) (← asInt v); store a new .atomic; pure new) := rfl
open Extern.Atomic in
theorem casT_eq (x o v : Value) : atomicSem .cas ⟨[x, o, v]⟩ = (do
    let a ← asAddr x
    if ← touchesFrozen a then unsupported (.unsafePointer "a write to bytes that a string shares")
    let eq ← match T.int .u64, ← read (.int .u64) a, o with
      | _, .int _ x, .int _ y => pure (x == y)
      | .ptr, .pointer x, .pointer y => samePointer x y
      | .int _, .pointer (some _), .int _ 0 | .int _, .int _ 0, .pointer (some _) => pure false
      | .int _, .pointer (some _), _ | .int _, _, .pointer (some _) => unsupported .addressObserved
      | _, _, _ => stuck "atomic.CompareAndSwap: old is no T"
    if eq then store a v .atomic
    pure (.bool eq)) := rfl

section
variable {P : Program} {Γ : Emb} {W w : World} {h : PT ABlk} {n : Nat}

theorem next_atomic (k : Atomic) : Extern.allNextRows.lookup (atomicName k) = none := by
  cases k
  · exact next_load
  · exact next_store
  · exact next_swap
  · exact next_cas
  · exact next_add

theorem find_atomic (k : Atomic) : Extern.allGenericRows.lookup (atomicName k) = none ∧ Extern.allTypedRows.lookup (atomicName k) = none ∧ Extern.allRows.lookup (atomicName k) = some (atomicSem k) := by
  cases k
  · exact ⟨gen_load, typed_load, row_load⟩
  · exact ⟨gen_store, typed_store, row_store⟩
  · exact ⟨gen_swap, typed_swap, row_swap⟩
  · exact ⟨gen_cas, typed_cas, row_cas⟩
  · exact ⟨gen_add, typed_add, row_add⟩

theorem extern_run {f : FuncId} {fn : Func} {k : Atomic} (hf : P.funcs[f]? = some fn) (hb : fn.body.isSome = false) (hn : fn.name = atomicName k) (ho : fn.origin = atomicName k ∨ fn.origin = "") (args : Array Value) (w : World) :
    (callFunc f args).run P w = ((atomicSem k args).run P w).andThen fun v w' => .ok (.value v) w' := by
  have hnum : (fn.name == "runtime.NumGoroutine") = false := by rw [hn]; cases k <;> decide
  have hb' : fn.body.isNone = true := by cases hbb : fn.body with | none => rfl | some c => rw [hbb] at hb; simp at hb
  have hfn : Extern.findNext fn = none := by
    unfold Extern.findNext
    rw [hn]
    simp only [next_atomic k, Option.map_none]
    rcases ho with ho | ho
    · rw [ho]; simp [next_atomic k]
    · rw [ho]; simp [next_empty]
  obtain ⟨h1, h2, h3⟩ := find_atomic k
  have hfd : Extern.find fn = some (atomicSem k) := by
    unfold Extern.find
    rw [hn]
    simp only [h1, h2, h3, Option.map_none]
    simp
  unfold callFunc
  simp only [Sem.run_bind, run_program, Result.andThen_ok, hf, hnum, Bool.false_eq_true, if_false, hb', if_true, run_mark, hfn, hfd, Sem.run_pure]

theorem aAtomic_sim (k : Atomic) {args args' : List Value} (ha : VRels Γ args args') : Sim P Γ (aAtomic k args) (atomicSem k ⟨args'⟩) VRel := by
  intro W h n w hS
  have hword : ∀ (c : PT Value) (a : Addr) (m : Int), wordOf c a = some m → c.get a.off = some (.int .u64 m) := by
    intro c a m hw
    unfold wordOf at hw
    split at hw
    · rename_i hc; obtain rfl := Option.some.inj hw; exact hc
    · simp at hw
  have hcell : ∀ {a a' : Addr} {c : PT Value} {ro : Bool} {m : Int}, Γ.addr a a' → h.get a.block = some (.cells c ro) → wordOf c a = some m → w.cell? a' = some (.int .u64 m) := by
    intro a a' c ro m haa hb hw
    obtain ⟨v', e, r⟩ := hS.cell0 hb (hword _ _ _ hw) haa rfl
    cases r; exact e
  have hfroz : ∀ {a a' : Addr} {c : PT Value}, Γ.addr a a' → h.get a.block = some (.cells c false) → w.frozen? a' = false := by
    intro a a' c haa hb
    have := hS.frozen hb haa rfl 0
    simpa [Addr.add] using this
  have hset : ∀ {a a' : Addr} {c : PT Value} {m : Int} (v : Int), Γ.addr a a' → h.get a.block = some (.cells c false) → wordOf c a = some m →
      SRel Γ W (h.set a.block (some (.cells (c.set a.off (some (.int .u64 v))) false))) (w.setCell a' (.int .u64 v)) := by
    intro a a' c m v haa hb hw
    exact hS.setCell hb haa rfl (.int _ _) (by rw [hword _ _ _ hw]; rfl)
  have hshape : ∀ {a a' : Addr} {c : PT Value}, Γ.addr a a' → h.get a.block = some (.cells c false) → (w.shape? a'.block).isSome = true := by
    intro a a' c haa hb
    obtain ⟨_, _, _, ⟨cs, el, fz, h1, _, _⟩, _⟩ := hS.block hb haa rfl
    simp [World.shape?, h1]
  unfold aAtomic
  split
  · rename_i a
    cases ha with
    | cons _ _ _ _ hp ht =>
      cases ht
      cases hp with
      | ptr _ a' haa =>
        refine SimAt.get fun B hB => ?_
        split
        · rename_i c ro
          split
          · rename_i m hm
            refine SimAt.ok hS (b := .int .u64 m) ?_ (.int _ _)
            simp [loadT_eq, Extern.Atomic.read, asAddr, hcell haa hB hm]
          · exact SimAt.fail
        · exact SimAt.fail
  · rename_i a v
    cases ha with
    | cons _ _ _ _ hp ht =>
      cases ht with
      | cons _ _ _ _ hv ht =>
        cases ht; cases hv
        cases hp with
        | ptr _ a' haa =>
          refine SimAt.get fun B hB => ?_
          split
          · rename_i c
            split
            · rename_i m hm
              refine SimAt.set (e' := pure (.tuple #[])) ?_ (SimAt.ok (hset v haa hB hm) rfl (.tuple _ _ .nil))
              simp [storeT_eq, asAddr, run_store P w a' (.int .u64 v) .atomic rfl, hcell haa hB hm, hfroz haa hB, Extern.Atomic.none_]
            · exact SimAt.fail
          · exact SimAt.fail
  · rename_i a v
    cases ha with
    | cons _ _ _ _ hp ht =>
      cases ht with
      | cons _ _ _ _ hv ht =>
        cases ht; cases hv
        cases hp with
        | ptr _ a' haa =>
          refine SimAt.get fun B hB => ?_
          split
          · rename_i c
            split
            · rename_i m hm
              refine SimAt.set (e' := pure (.int .u64 m)) ?_ (SimAt.ok (hset v haa hB hm) rfl (.int _ _))
              simp [swapT_eq, Extern.Atomic.read, asAddr, run_store P w a' (.int .u64 v) .atomic rfl, hcell haa hB hm, hfroz haa hB]
            · exact SimAt.fail
          · exact SimAt.fail
  · rename_i a o v
    cases ha with
    | cons _ _ _ _ hp ht =>
      cases ht with
      | cons _ _ _ _ ho ht =>
        cases ht with
        | cons _ _ _ _ hv ht =>
          cases ht; cases hv; cases ho
          cases hp with
          | ptr _ a' haa =>
            refine SimAt.get fun B hB => ?_
            split
            · rename_i c
              split
              · rename_i m hm
                have htf : ∀ w', w' = w → (Extern.Atomic.touchesFrozen a').run P w' = .ok false w := by
                  rintro w' rfl
                  simp [Extern.Atomic.touchesFrozen, viewAt, hshape haa hB, hfroz haa hB]
                cases heq : m == o with
                | true =>
                  have heq : m = o := by simpa using heq
                  refine SimAt.set (e' := pure (.bool true)) ?_ (SimAt.ok (hset v haa hB hm) rfl (.bool _))
                  simp [casT_eq, Extern.Atomic.read, asAddr, htf w rfl, hcell haa hB hm, heq, run_store P w a' (.int .u64 v) .atomic rfl, hfroz haa hB]
                | false =>
                  have heq : ¬ m = o := by simpa using heq
                  refine SimAt.ok hS (b := .bool false) ?_ (.bool _)
                  simp [casT_eq, Extern.Atomic.read, asAddr, htf w rfl, hcell haa hB hm, heq]
              · exact SimAt.fail
            · exact SimAt.fail
  · rename_i a v
    cases ha with
    | cons _ _ _ _ hp ht =>
      cases ht with
      | cons _ _ _ _ hv ht =>
        cases ht; cases hv
        cases hp with
        | ptr _ a' haa =>
          refine SimAt.get fun B hB => ?_
          split
          · rename_i c
            split
            · rename_i m hm
              refine SimAt.set (e' := pure (.int .u64 (IntKind.u64.wrap (m + v)))) ?_ (SimAt.ok (hset _ haa hB hm) rfl (.int _ _))
              simp [addT_eq, Extern.Atomic.read, asAddr, asInt, asIntOf, Op.intArith, run_store P w a' (.int .u64 (IntKind.u64.wrap (m + v))) .atomic rfl, hcell haa hB hm, hfroz haa hB]
            · exact SimAt.fail
          · exact SimAt.fail
  · exact SimAt.fail

theorem zeroCells_rep (z : Array Value) (k : Nat) (hz : 0 < z.size) : Builtin.zeroCells z k = ⟨rep z.toList k⟩ := rep_array z k hz

theorem aClear_sim {ts : Array TypeId} {ty : TypeId} {args args' : List Value} (ha : VRels Γ args args') : Sim P Γ (aClear P ts.toList args) (Builtin.clear_ ts ty ⟨args'⟩) VRel := by
  intro W h n w hS
  unfold aClear
  split
  · rename_i t tr k c rest hts
    obtain ⟨tl⟩ := ts
    obtain rfl : tl = t :: tr := hts
    cases ha with
    | cons _ _ _ _ hx ha =>
      cases hx
      split
      · rename_i d hd
        exact SimAt.ok hS (b := .tuple #[]) (by simp [Builtin.clear_, run_und hd]) (.tuple _ _ .nil)
      · exact SimAt.fail
  · rename_i t tr a k c rest hts
    obtain ⟨tl⟩ := ts
    obtain rfl : tl = t :: tr := hts
    cases ha with
    | cons _ _ _ _ hx ha =>
      cases hx with
      | slice _ a' _ _ c' ha0 hc =>
        split
        · rename_i e hd
          cases hk : Nat.beq k 0 with
          | true =>
            have hk := beq_true hk
            subst hk
            exact SimAt.ok hS (b := .tuple #[]) (by simp [Builtin.clear_, run_und hd]) (.tuple _ _ .nil)
          | false =>
            have hk : k ≠ 0 := fun e => by rw [e] at hk; exact Bool.noConfusion hk
            have haa := ha0.exact (.inl (by omega))
            simp only [cond_false]
            split
            · rename_i i z hi hz
              obtain ⟨hzr, hzz⟩ := zeroOf_spec hz
              cases hpos : Nat.blt 0 z.cells.toList.length with
              | false => exact SimAt.fail
              | true =>
                have hpos : 0 < z.cells.toList.length := Nat.blt_eq.mp hpos
                simp only [cond_true]
                refine SimAt.get fun B hB => ?_
                split
                · rename_i cc
                  split
                  · rename_i c2 hc2
                    obtain ⟨w', hr, hS'⟩ := storeCells_sim (P := P) (i := a.block) (a := a) (a' := a') rfl _ _ cc c2 0 h w haa hS hB ((hzz Γ).cells.rep k) (by simpa using hc2)
                    refine SimAt.set (w' := w') (e' := pure (.tuple #[])) ?_ (SimAt.ok hS' rfl (.tuple _ _ .nil))
                    have hzc := zeroCells_rep z.cells k (by simpa using hpos)
                    simp [Builtin.clear_, run_und hd, hk, hzr, hzc, hr]
                  · exact SimAt.fail
                · exact SimAt.fail
            · exact SimAt.fail
        · exact SimAt.fail
  · exact SimAt.fail

end
end Go.Am
