/-
  A part of the proof: contracts of inner functions.
-/
import Derived.Test.YtbceiadaihphaaaGreatPT
import Derived.Test.YtbceiadaihphaaaGreatAmV3
set_option linter.unusedVariables false
set_option linter.unusedSimpArgs false
namespace Go.Proofs.YtbceiadaihphaaaGreat
open Go.Am
def atL (a : Addr) (B : ABlk) : AP ANext := AP.bind (match B with
    | .cells c _ => match wordOf c a with | some n => .pure (.int .u64 n) | none => .fail "atomic"
    | _ => .fail "atomic") fun v => .pure (.value v)
def atS (a : Addr) (v : Int) (B : ABlk) : AP ANext := AP.bind (match B with
    | .cells c false => match wordOf c a with | some _ => .set a.block (.cells (c.set a.off (some (.int .u64 v))) false) (.pure (.tuple ⟨[]⟩)) | none => .fail "atomic"
    | _ => .fail "atomic") fun v => .pure (.value v)
def atW (a : Addr) (v : Int) (B : ABlk) : AP ANext := AP.bind (match B with
    | .cells c false => match wordOf c a with | some n => .set a.block (.cells (c.set a.off (some (.int .u64 v))) false) (.pure (.int .u64 n)) | none => .fail "atomic"
    | _ => .fail "atomic") fun v => .pure (.value v)
@[go_sem] theorem callLoad {b off : Nat} {sp : Option Nat} : aCallFunc Tryz.prog 98 [.pointer (some ⟨b, off, sp⟩)] = .get b (atL ⟨b, off, sp⟩) := by kernel_rfl
@[go_sem] theorem callStore {b off : Nat} {sp : Option Nat} {v : Int} : aCallFunc Tryz.prog 78 [.pointer (some ⟨b, off, sp⟩), .int .u64 v] = .get b (atS ⟨b, off, sp⟩ v) := by kernel_rfl
@[go_sem] theorem callSwap {b off : Nat} {sp : Option Nat} {v : Int} : aCallFunc Tryz.prog 147 [.pointer (some ⟨b, off, sp⟩), .int .u64 v] = .get b (atW ⟨b, off, sp⟩ v) := by kernel_rfl
def atLR : Option Value → AP ANext
 | some (.int .u64 n) => .pure (.value (.int .u64 n))
 | _ => .fail "atomic"
def atSR (b off : Nat) (v : Int) (L : List Value) : Option Value → AP ANext
 | some (.int .u64 _) => .set b (.cells (PT.ofList .leaf 0 (L.set off (.int .u64 v))) false) (.pure (.value (.tuple ⟨[]⟩)))
 | _ => .fail "atomic"
def atWR (b off : Nat) (v : Int) (L : List Value) : Option Value → AP ANext
 | some (.int .u64 n) => .set b (.cells (PT.ofList .leaf 0 (L.set off (.int .u64 v))) false) (.pure (.value (.int .u64 n)))
 | _ => .fail "atomic"
@[go_sem] theorem atLR_some {n : Int} : atLR (some (.int .u64 n)) = .pure (.value (.int .u64 n)) := rfl
@[go_sem] theorem atSR_some {b off : Nat} {v n : Int} {L : List Value} : atSR b off v L (some (.int .u64 n)) = .set b (.cells (PT.ofList .leaf 0 (L.set off (.int .u64 v))) false) (.pure (.value (.tuple ⟨[]⟩))) := rfl
@[go_sem] theorem atWR_some {b off : Nat} {v n : Int} {L : List Value} : atWR b off v L (some (.int .u64 n)) = .set b (.cells (PT.ofList .leaf 0 (L.set off (.int .u64 v))) false) (.pure (.value (.int .u64 n))) := rfl
theorem wordOf_row {L : List Value} {b off : Nat} {sp : Option Nat} : wordOf (PT.ofList .leaf 0 L) ⟨b, off, sp⟩ = match L[off]? with | some (.int .u64 n) => some n | _ => none := by
 unfold wordOf
 rw [PT.get_ofList_leaf]
 rfl
@[go_sem] theorem atL_row {L : List Value} {ro : Bool} {b off : Nat} {sp : Option Nat} : atL ⟨b, off, sp⟩ (.cells (PT.ofList .leaf 0 L) ro) = atLR L[off]? := by
 simp only [atL, wordOf_row]
 cases L[off]? with
 | none => rfl
 | some v => cases v with
  | int k n => cases k <;> rfl
  | _ => rfl
@[go_sem] theorem atS_row {L : List Value} {v : Int} {b off : Nat} {sp : Option Nat} : atS ⟨b, off, sp⟩ v (.cells (PT.ofList .leaf 0 L) false) = atSR b off v L L[off]? := by
 simp only [atS, wordOf_row]
 cases e : L[off]? with
 | none => rfl
 | some u =>
  have hl := (List.getElem?_eq_some_iff.1 e).1
  cases u with
  | int k n =>
   cases k with
   | u64 => simp only [AP.bind, atSR, row_set _ _ _ hl]
   | _ => rfl
  | _ => rfl
@[go_sem] theorem atW_row {L : List Value} {v : Int} {b off : Nat} {sp : Option Nat} : atW ⟨b, off, sp⟩ v (.cells (PT.ofList .leaf 0 L) false) = atWR b off v L L[off]? := by
 simp only [atW, wordOf_row]
 cases e : L[off]? with
 | none => rfl
 | some u =>
  have hl := (List.getElem?_eq_some_iff.1 e).1
  cases u with
  | int k n =>
   cases k with
   | u64 => simp only [AP.bind, atWR, row_set _ _ _ hl]
   | _ => rfl
  | _ => rfl
def atA (a : Addr) (v : Int) (B : ABlk) : AP ANext := AP.bind (match B with
    | .cells c false => match wordOf c a with | some n => .set a.block (.cells (c.set a.off (some (.int .u64 (IntKind.u64.wrap (n + v))))) false) (.pure (.int .u64 (IntKind.u64.wrap (n + v)))) | none => .fail "atomic"
    | _ => .fail "atomic") fun v => .pure (.value v)
def atC (a : Addr) (o v : Int) (B : ABlk) : AP ANext := AP.bind (match B with
    | .cells c false => match wordOf c a with | some n => cond (n == o) (.set a.block (.cells (c.set a.off (some (.int .u64 v))) false) (.pure (.bool true))) (.pure (.bool false)) | none => .fail "atomic"
    | _ => .fail "atomic") fun v => .pure (.value v)
@[go_sem] theorem callAdd {b off : Nat} {sp : Option Nat} {v : Int} : aCallFunc Tryz.prog 178 [.pointer (some ⟨b, off, sp⟩), .int .u64 v] = .get b (atA ⟨b, off, sp⟩ v) := by kernel_rfl
@[go_sem] theorem callCas {b off : Nat} {sp : Option Nat} {o v : Int} : aCallFunc Tryz.prog 190 [.pointer (some ⟨b, off, sp⟩), .int .u64 o, .int .u64 v] = .get b (atC ⟨b, off, sp⟩ o v) := by kernel_rfl
def atAR (b off : Nat) (v : Int) (L : List Value) : Option Value → AP ANext
 | some (.int .u64 n) => .set b (.cells (PT.ofList .leaf 0 (L.set off (.int .u64 (IntKind.u64.wrap (n + v))))) false) (.pure (.value (.int .u64 (IntKind.u64.wrap (n + v)))))
 | _ => .fail "atomic"
def atCR (b off : Nat) (o v : Int) (L : List Value) : Option Value → AP ANext
 | some (.int .u64 n) => cond (n == o) (.set b (.cells (PT.ofList .leaf 0 (L.set off (.int .u64 v))) false) (.pure (.value (.bool true)))) (.pure (.value (.bool false)))
 | _ => .fail "atomic"
@[go_sem] theorem atAR_some {b off : Nat} {v n : Int} {L : List Value} : atAR b off v L (some (.int .u64 n)) = .set b (.cells (PT.ofList .leaf 0 (L.set off (.int .u64 (IntKind.u64.wrap (n + v))))) false) (.pure (.value (.int .u64 (IntKind.u64.wrap (n + v))))) := rfl
@[go_sem] theorem atCR_some {b off : Nat} {o v n : Int} {L : List Value} : atCR b off o v L (some (.int .u64 n)) = cond (n == o) (.set b (.cells (PT.ofList .leaf 0 (L.set off (.int .u64 v))) false) (.pure (.value (.bool true)))) (.pure (.value (.bool false))) := rfl
@[go_sem] theorem atA_row {L : List Value} {v : Int} {b off : Nat} {sp : Option Nat} : atA ⟨b, off, sp⟩ v (.cells (PT.ofList .leaf 0 L) false) = atAR b off v L L[off]? := by
 simp only [atA, wordOf_row]
 cases e : L[off]? with
 | none => rfl
 | some u =>
  have hl := (List.getElem?_eq_some_iff.1 e).1
  cases u with
  | int k n =>
   cases k with
   | u64 => simp only [AP.bind, atAR, row_set _ _ _ hl]
   | _ => rfl
  | _ => rfl
@[go_sem] theorem atC_row {L : List Value} {o v : Int} {b off : Nat} {sp : Option Nat} : atC ⟨b, off, sp⟩ o v (.cells (PT.ofList .leaf 0 L) false) = atCR b off o v L L[off]? := by
 simp only [atC, wordOf_row]
 cases e : L[off]? with
 | none => rfl
 | some u =>
  have hl := (List.getElem?_eq_some_iff.1 e).1
  cases u with
  | int k n =>
   cases k with
   | u64 =>
    simp only [atCR, row_set _ _ _ hl]
    cases (n == o) <;> rfl
   | _ => rfl
  | _ => rfl
end Go.Proofs.YtbceiadaihphaaaGreat
set_option linter.unusedVariables false
set_option linter.unusedSimpArgs false
namespace Go.Proofs.YtbceiadaihphaaaGreat
open Go.Am
theorem orders : Tryz.prog.follows .mixedOrders = true := by kernel_rfl
noncomputable def atQ : List Value → Option (AP Value)
 | [.int .i64 s, .pointer (some ⟨p, 0, none⟩)] => some (AP.row p fun (S : List Value) ro => match S with
  | [.int .i64 b] => .pure (.int .i64 (IntKind.i64.wrap (b + IntKind.i64.wrap (2 * s))))
  | _ => .fail "")
 | _ => none
theorem atF : SoundF Tryz.prog 80 atQ := by
 refine soundF_look (O := tabO []) (tab_sound .nil) orders ?_ ?_ ?_
 ·intro args m hm
  unfold atQ at hm
  split at hm
  ·obtain rfl := Option.some.inj hm
   refine row_reads fun S ro => ?_
   split
   ·exact .pure _
   ·exact .fail _
  ·simp at hm
 ·intro args m h v hm e
  unfold atQ at hm
  split at hm
  ·obtain rfl := Option.some.inj hm
   obtain ⟨S, ro, hb, e⟩ := look_row e
   split at e
   ·rw [look_pure] at e; obtain rfl := Option.some.inj e
    exact .int _ _
   ·simp [AP.look] at e
  ·simp at hm
 ·intro args m h N v hm hR hlt e
  unfold atQ at hm
  split at hm
  ·rename_i s p
   obtain rfl := Option.some.inj hm
   obtain ⟨S, ro, hb, e⟩ := look_row e
   split at e
   ·rename_i b
    rw [look_pure] at e; obtain rfl := Option.some.inj e
    clear e hlt hR
    refine EvB_run (N := 8) Tryz.func80 rfl rfl fun z hP hO hro hN hQ => ?_
    repeat' first | simp (maxSteps := 2000000) (disch := first | omega | assumption) only [go_sem, *] | (apply xs <;> intro _) <;> try omega
    exact fun _ _ => trivial
   ·simp [AP.look] at e
  ·simp at hm
def bkL (base b : Int) : List Value := [.int .i64 (base + 4 * b + 0), .int .i64 (base + 4 * b + 1), .int .i64 (base + 4 * b + 2), .int .i64 (base + 4 * b + 3)]
noncomputable def wordsQ : List Value → Option (AP Value)
 | [.pointer (some ⟨w, 0, none⟩)] => some (AP.row w fun (S : List Value) ro => match S with
  | [.pointer (some ⟨g, 0, none⟩), th, .slice (some ⟨l, off, none⟩) len cap, lk, sd, x, y] => AP.row g fun (G : List Value) ro2 => match G with
   | [mp, .int .i64 base, nn, sm] => AP.row l fun (B : List Value) ro3 => match B[off]? with
    | some (.int .i64 b) => cond (Nat.blt 0 len && decide (0 ≤ b) && decide (b < 100) && decide (0 ≤ base) && decide (base < 100000)) (.pure (.agg ⟨bkL base b⟩)) (.fail "")
    | _ => .fail ""
   | _ => .fail ""
  | _ => .fail "")
 | _ => none
set_option maxHeartbeats 4000000 in
theorem wordsF : SoundF Tryz.prog 176 wordsQ := by
 refine soundF_look (O := tabO []) (tab_sound .nil) orders ?_ ?_ ?_
 ·intro args m hm
  unfold wordsQ at hm
  split at hm
  ·obtain rfl := Option.some.inj hm
   refine row_reads fun S ro => ?_
   split
   ·refine row_reads fun S ro => ?_
    split
    ·refine row_reads fun S ro => ?_
     split
     ·exact .cond (.pure _) (.fail _)
     ·exact .fail _
    ·exact .fail _
   ·exact .fail _
  ·simp at hm
 ·intro args m h v hm e
  unfold wordsQ at hm
  split at hm
  ·obtain rfl := Option.some.inj hm
   obtain ⟨S, ro, hb, e⟩ := look_row e
   split at e
   ·obtain ⟨G, ro2, hg, e⟩ := look_row e
    split at e
    ·obtain ⟨B, ro3, hl, e⟩ := look_row e
     split at e
     ·obtain ⟨hc, e⟩ := look_cond e
      rw [look_pure] at e; obtain rfl := Option.some.inj e
      exact .agg _ (by simp [bkL]; exact ⟨.int _ _, .int _ _, .int _ _, .int _ _⟩)
     ·simp [AP.look] at e
    ·simp [AP.look] at e
   ·simp [AP.look] at e
  ·simp at hm
 ·intro args m h N v hm hR hlt e
  unfold wordsQ at hm
  split at hm
  ·rename_i w
   obtain rfl := Option.some.inj hm
   obtain ⟨S, ro, hb, e⟩ := look_row e
   split at e
   ·rename_i g th l off len cap lk sd x y
    obtain ⟨G, ro2, hg, e⟩ := look_row e
    split at e
    ·rename_i mp base nn sm
     obtain ⟨B, ro3, hl, e⟩ := look_row e
     split at e
     ·rename_i b hB
      obtain ⟨hc, e⟩ := look_cond e
      rw [look_pure] at e; obtain rfl := Option.some.inj e
      clear e
      simp only [Bool.and_eq_true, decide_eq_true_eq] at hc
      obtain ⟨⟨⟨⟨c1, c2⟩, c3⟩, c4⟩, c5⟩ := hc
      have c6 : 0 < len := Nat.le_of_ble_eq_true c1
      have hbN := hlt _ _ hb
      have hgN := hlt _ _ hg
      have hlN := hlt _ _ hl
      have c7 : (0 : Int) < len := by omega
      clear c1 hlt hR
      refine EvB_run (N := 14) Tryz.func176 rfl rfl fun z hP hO hro hN hQ => ?_
      repeat' first | simp (maxSteps := 2000000) (disch := first | omega | assumption) only [go_sem, *] | (apply xs <;> intro _) <;> try omega | ((with_reducible refine isD 1 ?_); refine dw 14 1 w176_1 (by first | (simp only [go_sem, *]; done) | rfl) (by kernel_rfl) (by kernel_rfl) ?_) | refine fun (_ _ : List Nat) => ?_ | (first | refine inQ Tryz.func169 rfl ?_ ?_ ?_ ?_ | fail) <;> intros
      rw [EvK_loop]
      repeat' first | simp (maxSteps := 2000000) (disch := first | omega | assumption) only [go_sem, *] | (apply xs <;> intro _) <;> try omega | refine fun (_ _ : List Nat) => ?_
      rw [EvK_loop]
      repeat' first | simp (maxSteps := 2000000) (disch := first | omega | assumption) only [go_sem, *] | (apply xs <;> intro _) <;> try omega | refine fun (_ _ : List Nat) => ?_
      rw [EvK_loop]
      repeat' first | simp (maxSteps := 2000000) (disch := first | omega | assumption) only [go_sem, *] | (apply xs <;> intro _) <;> try omega | refine fun (_ _ : List Nat) => ?_
      rw [EvK_loop]
      repeat' first | simp (maxSteps := 2000000) (disch := first | omega | assumption) only [go_sem, *] | (apply xs <;> intro _) <;> try omega | refine fun (_ _ : List Nat) => ?_
      rw [EvK_loop]
      repeat' first | simp (maxSteps := 2000000) (disch := first | omega | assumption) only [go_sem, *] | (apply xs <;> intro _) <;> try omega | refine fun (_ _ : List Nat) => ?_
      exact ⟨rfl, fun i hi => by simp (disch := omega) only [heap_ne]⟩
     ·simp [AP.look] at e
    ·simp [AP.look] at e
   ·simp [AP.look] at e
  ·simp at hm
noncomputable def bucketQ : List Value → Option (AP Value)
 | [.pointer (some ⟨g, 0, none⟩), .int .i64 b] => some (AP.row g fun (G : List Value) ro2 => match G with
   | [mp, .int .i64 base, nn, sm] => cond (decide (0 ≤ b) && decide (b < 100) && decide (0 ≤ base) && decide (base < 100000)) (.pure (.agg ⟨bkL base b⟩)) (.fail "")
   | _ => .fail "")
 | _ => none
set_option maxHeartbeats 4000000 in
theorem bucketF : SoundF Tryz.prog 169 bucketQ := by
 refine soundF_look (O := tabO []) (tab_sound .nil) orders ?_ ?_ ?_
 ·intro args m hm
  unfold bucketQ at hm
  split at hm
  ·obtain rfl := Option.some.inj hm
   refine row_reads fun S ro => ?_
   split
   ·exact .cond (.pure _) (.fail _)
   ·exact .fail _
  ·simp at hm
 ·intro args m h v hm e
  unfold bucketQ at hm
  split at hm
  ·obtain rfl := Option.some.inj hm
   obtain ⟨G, ro2, hg, e⟩ := look_row e
   split at e
   ·obtain ⟨hc, e⟩ := look_cond e
    rw [look_pure] at e; obtain rfl := Option.some.inj e
    exact .agg _ (by simp [bkL]; exact ⟨.int _ _, .int _ _, .int _ _, .int _ _⟩)
   ·simp [AP.look] at e
  ·simp at hm
 ·intro args m h N v hm hR hlt e
  unfold bucketQ at hm
  split at hm
  ·rename_i g b
   obtain rfl := Option.some.inj hm
   obtain ⟨G, ro2, hg, e⟩ := look_row e
   split at e
   ·rename_i mp base nn sm
    obtain ⟨hc, e⟩ := look_cond e
    rw [look_pure] at e; obtain rfl := Option.some.inj e
    clear e
    simp only [Bool.and_eq_true, decide_eq_true_eq] at hc
    obtain ⟨⟨⟨c2, c3⟩, c4⟩, c5⟩ := hc
    have hgN := hlt _ _ hg
    clear hlt hR
    refine EvB_run (N := 23) Tryz.func169 rfl rfl fun z hP hO hro hN hQ => ?_
    repeat' first | simp (maxSteps := 2000000) (disch := first | omega | assumption) only [go_sem, *] | (apply xs <;> intro _) <;> try omega
    rw [EvK_loop]
    repeat' first | simp (maxSteps := 2000000) (disch := first | omega | assumption) only [go_sem, *] | (apply xs <;> intro _) <;> try omega
    rw [EvK_loop]
    repeat' first | simp (maxSteps := 2000000) (disch := first | omega | assumption) only [go_sem, *] | (apply xs <;> intro _) <;> try omega
    rw [EvK_loop]
    repeat' first | simp (maxSteps := 2000000) (disch := first | omega | assumption) only [go_sem, *] | (apply xs <;> intro _) <;> try omega
    rw [EvK_loop]
    repeat' first | simp (maxSteps := 2000000) (disch := first | omega | assumption) only [go_sem, *] | (apply xs <;> intro _) <;> try omega
    rw [EvK_loop]
    repeat' first | simp (maxSteps := 2000000) (disch := first | omega | assumption) only [go_sem, *] | (apply xs <;> intro _) <;> try omega
    exact ⟨rfl, fun i hi => by simp (disch := omega) only [heap_ne]⟩
   ·simp [AP.look] at e
  ·simp at hm
noncomputable abbrev OP : Over := tabO [(80, atQ), (176, wordsQ), (169, bucketQ), (10, trueS), (16, trueS)]
end Go.Proofs.YtbceiadaihphaaaGreat
set_option linter.unusedVariables false
set_option linter.unusedSimpArgs false
namespace Go.Proofs.YtbceiadaihphaaaGreat
open Go.Am
abbrev rM : Rl := (0, 0)
abbrev rW : Rl := (1, 0)
abbrev rL : Rl := (2, 0)
def lgV (g k : Nat) : Value := if k = 0 then .slice none 0 0 else .slice (some ⟨g, 0, none⟩) k (capInf + 6)
structure IsM (d : Rl → Nat) (C : Rl → Option ABlk) (W : List Int) (L : List Value) (k : Nat) : Prop where
 mem : C rM = row [.slice (some ⟨d rW, 0, none⟩) W.length W.length, lgV (d rL) k]
 words : C rW = row (W.map (.int .u64))
 log : (k = 0 ∧ L = []) ∨ (0 < k ∧ C rL = row L)
 len : L.length = k * 6
def accV (th a kd old new : Int) (sw : Bool) : List Value := [.int .i64 th, .int .i64 a, .int .u8 kd, .int .u64 old, .int .u64 new, .bool sw]
def memC (C : Rl → Option ABlk) (w g : Nat) (W : List Int) (L : List Value) (k : Nat) : Rl → Option ABlk := upd (upd (upd C rW (row (W.map (.int .u64)))) rL (row L)) rM (row [.slice (some ⟨w, 0, none⟩) W.length W.length, .slice (some ⟨g, 0, none⟩) k (capInf + 6)])
theorem memC_ne {C : Rl → Option ABlk} {w g : Nat} {W : List Int} {L : List Value} {k a b : Nat} (h : 2 < a) : memC C w g W L k (a, b) = C (a, b) := by
 unfold memC
 rw [upd_tag (by omega), upd_tag (by omega), upd_tag (by omega)]
theorem IsM.next {d : Rl → Nat} {C : Rl → Option ABlk} {W W' : List Int} {L L' : List Value} {k g : Nat} (hw : W'.length = W.length) (hl : L'.length = (k + 1) * 6) : IsM (upd d rL g) (memC C (d rW) g W' L' (k + 1)) W' L' (k + 1) := by
 refine ⟨?_, ?_, .inr ⟨by omega, ?_⟩, hl⟩
 ·unfold memC lgV
  rw [upd_same, if_neg (by omega), upd_same, upd_tag (by decide)]
 ·unfold memC
  rw [upd_tag (by decide), upd_tag (by decide), upd_same]
 ·unfold memC
  rw [upd_tag (by decide), upd_same]
theorem mapW_get {W : List Int} {i : Nat} (hi : i < W.length) : (W.map (Value.int .u64))[i]? = some (.int .u64 W[i]) := by
 rw [List.getElem?_map, List.getElem?_eq_getElem hi]; rfl
theorem _root_.Go.Am.St.fin {H : PT ABlk} {n g m : Nat} {d : Rl → Nat} {C : Rl → Option ABlk} {A : ABlk} (S : St H n d C) (e : C rM = some A) (hg : n ≤ g) (hm : g < m) (B X : ABlk) : St ((H.set g (some B)).set (d rM) (some X)) m (upd d rL g) (upd (upd C rL (some B)) rM (some X)) :=
 (S.new rL B hg hm).set rM X (by rw [upd_tag (by decide)]; exact e) (upd_tag (by decide))
structure MemO (O : Over) : Prop where
 c : O 89 = fun _ => none
 l : O 90 = fun _ => none
 s : O 145 = fun _ => none
 a : O 174 = fun _ => none
 k : O 187 = fun _ => none
 n : O 146 = fun _ => none
variable {O : Over}
set_option maxHeartbeats 4000000 in
theorem loadB (oM : MemO O) {h : PT ABlk} {n : Nat} {d : Rl → Nat} {C : Rl → Option ABlk} {W : List Int} {L : List Value} {k a : Nat} {th : Int} (S : St h n d C) (M : IsM d C W L k) (hk : k ≤ 100000) (ht : 0 ≤ th ∧ th < 64) (ha : a < W.length) :
  EvB Tryz.prog O 185 [pt (d rM), I6 th, I6 a] h n fun v h' n' => ∃ g, n ≤ g ∧ g < n' ∧ v = tup [U6 W[a], I6 0] ∧ St h' n' (upd d rL g) (memC C (d rW) g (W) (L ++ accV th a 1 W[a] W[a] false) (k + 1)) := by
 obtain ⟨m1, m2, m3, m4⟩ := M
 obtain ⟨o1, o2, o3, o4, o5, o6⟩ := oM
 have g1 := S.at m1
 have g2 := S.at m2
 have n1 := S.lt m1
 have n2 := S.lt m2
 have d1 := S.df m1 m2 (by decide)
 have hg := mapW_get ha
 have a1 : (0 : Int) ≤ (a : Int) := by omega
 have a2 : (a : Int) < (W.length : Int) := by omega
 obtain ⟨t1, t2⟩ := ht
 have hk2 : k + 1 ≤ 1048576 := by omega
 have S1 := S
 have e1 : ∀ {A}, C rM = some A → C rM = some A := fun q => q
 have e2 : ∀ {A}, C rM = some A → (upd C rL none) rM = some A := fun q => by rw [upd_tag (by decide)]; exact q
 have e3 : ∀ {A}, C rL = some A → C rL = some A := fun q => q
 have m2' := upd_id m2
 generalize W[a] = x at *
 refine EvB_run (N := 31) Tryz.func185 rfl rfl fun z hP hO hro hN hQ => ?_
 rcases m3 with ⟨rfl, rfl⟩ | ⟨k0, m3⟩
 ·have e0 : lgV (d rL) 0 = .slice none 0 0 := if_pos rfl
  rw [e0] at g1
  clear e0
  repeat' first | simp (maxSteps := 2000000) (disch := first | omega | assumption) only [go_sem, *] | (apply xs <;> intro _) <;> try omega | refine fun (_ _ : List Nat) => ?_ | (first | refine inQ Tryz.func89 rfl ?_ ?_ ?_ ?_ | refine inQ Tryz.func90 rfl ?_ ?_ ?_ ?_ | refine inQ Tryz.func146 rfl ?_ ?_ ?_ ?_ | fail) <;> intros
  exact ⟨_, by omega, by omega, ((S1.junk (Nat.le_refl _) (Nat.lt_succ_self _)).fin (e1 m1) (Nat.le_refl _) (Nat.lt_succ_self _) _ _).eq (by unfold memC; rw [m2']; rfl) rfl⟩
 ·have e0 : lgV (d rL) k = .slice (some ⟨d rL, 0, none⟩) k (capInf + 6) := if_neg (by omega)
  rw [e0] at g1
  have g3 := S.at m3
  have n3 := S.lt m3
  have d2 := S.df m1 m3 (by decide)
  have d3 := S.df m2 m3 (by decide)
  have htk : List.take (k * 6) L = L := List.take_of_length_le (by omega)
  clear e0
  repeat' first | simp (maxSteps := 2000000) (disch := first | omega | assumption) only [go_sem, *] | (apply xs <;> intro _) <;> try omega | refine fun (_ _ : List Nat) => ?_ | (first | refine inQ Tryz.func89 rfl ?_ ?_ ?_ ?_ | refine inQ Tryz.func90 rfl ?_ ?_ ?_ ?_ | refine inQ Tryz.func146 rfl ?_ ?_ ?_ ?_ | fail) <;> intros
  exact ⟨_, by omega, by omega, (((S1.junk (Nat.le_refl _) (Nat.lt_succ_self _)).kill rL (e3 m3) rfl).fin (e2 m1) (Nat.le_refl _) (Nat.lt_succ_self _) _ _).eq (by unfold memC; rw [upd_upd]; rw [m2']; rfl) rfl⟩
end Go.Proofs.YtbceiadaihphaaaGreat
set_option linter.unusedVariables false
set_option linter.unusedSimpArgs false
namespace Go.Proofs.YtbceiadaihphaaaGreat
open Go.Am
variable {O : Over}
set_option maxHeartbeats 4000000 in
theorem storeB (oM : MemO O) {h : PT ABlk} {n : Nat} {d : Rl → Nat} {C : Rl → Option ABlk} {W : List Int} {L : List Value} {k a : Nat} {th x : Int} (S : St h n d C) (M : IsM d C W L k) (hk : k ≤ 100000) (ht : 0 ≤ th ∧ th < 64) (ha : a < W.length) :
  EvB Tryz.prog O 142 [pt (d rM), I6 th, I6 a, U6 x] h n fun v h' n' => ∃ g, n ≤ g ∧ g < n' ∧ v = I6 0 ∧ St h' n' (upd d rL g) (memC C (d rW) g (W.set a x) (L ++ accV th a 2 W[a] x false) (k + 1)) := by
 obtain ⟨m1, m2, m3, m4⟩ := M
 obtain ⟨o1, o2, o3, o4, o5, o6⟩ := oM
 have g1 := S.at m1
 have g2 := S.at m2
 have n1 := S.lt m1
 have n2 := S.lt m2
 have d1 := S.df m1 m2 (by decide)
 have hg := mapW_get ha
 have a1 : (0 : Int) ≤ (a : Int) := by omega
 have a2 : (a : Int) < (W.length : Int) := by omega
 obtain ⟨t1, t2⟩ := ht
 have hk2 : k + 1 ≤ 1048576 := by omega
 have hls : (W.set a x).length = W.length := List.length_set
 have hms : (W.map (Value.int .u64)).set a (.int .u64 x) = (W.set a x).map (.int .u64) := by rw [List.map_set]
 have S1 := S.set rW (.cells (PT.ofList .leaf 0 ((W.set a x).map (.int .u64))) false) m2 rfl
 have e1 : ∀ {A}, C rM = some A → (upd C rW (row ((W.set a x).map (.int .u64)))) rM = some A := fun q => by rw [upd_tag (by decide)]; exact q
 have e2 : ∀ {A}, C rM = some A → (upd (upd C rW (row ((W.set a x).map (.int .u64)))) rL none) rM = some A := fun q => by rw [upd_tag (by decide), upd_tag (by decide)]; exact q
 have e3 : ∀ {A}, C rL = some A → (upd C rW (row ((W.set a x).map (.int .u64)))) rL = some A := fun q => by rw [upd_tag (by decide)]; exact q
 generalize W[a] = y at *
 generalize W.set a x = W2 at *
 refine EvB_run (N := 32) Tryz.func142 rfl rfl fun z hP hO hro hN hQ => ?_
 rcases m3 with ⟨rfl, rfl⟩ | ⟨k0, m3⟩
 ·have e0 : lgV (d rL) 0 = .slice none 0 0 := if_pos rfl
  rw [e0] at g1
  clear e0
  repeat' first | simp (maxSteps := 2000000) (disch := first | omega | assumption) only [go_sem, *] | (apply xs <;> intro _) <;> try omega | refine fun (_ _ : List Nat) => ?_ | (first | refine inQ Tryz.func89 rfl ?_ ?_ ?_ ?_ | refine inQ Tryz.func145 rfl ?_ ?_ ?_ ?_ | refine inQ Tryz.func146 rfl ?_ ?_ ?_ ?_ | fail) <;> intros
  exact ⟨_, by omega, by omega, ((S1.junk (Nat.le_refl _) (Nat.lt_succ_self _)).fin (e1 m1) (Nat.le_refl _) (Nat.lt_succ_self _) _ _).eq (by unfold memC; rw [hls]; rfl) rfl⟩
 ·have e0 : lgV (d rL) k = .slice (some ⟨d rL, 0, none⟩) k (capInf + 6) := if_neg (by omega)
  rw [e0] at g1
  have g3 := S.at m3
  have n3 := S.lt m3
  have d2 := S.df m1 m3 (by decide)
  have d3 := S.df m2 m3 (by decide)
  have htk : List.take (k * 6) L = L := List.take_of_length_le (by omega)
  clear e0
  repeat' first | simp (maxSteps := 2000000) (disch := first | omega | assumption) only [go_sem, *] | (apply xs <;> intro _) <;> try omega | refine fun (_ _ : List Nat) => ?_ | (first | refine inQ Tryz.func89 rfl ?_ ?_ ?_ ?_ | refine inQ Tryz.func145 rfl ?_ ?_ ?_ ?_ | refine inQ Tryz.func146 rfl ?_ ?_ ?_ ?_ | fail) <;> intros
  exact ⟨_, by omega, by omega, (((S1.junk (Nat.le_refl _) (Nat.lt_succ_self _)).kill rL (e3 m3) rfl).fin (e2 m1) (Nat.le_refl _) (Nat.lt_succ_self _) _ _).eq (by unfold memC; rw [upd_upd]; rw [hls]; rfl) rfl⟩
set_option maxHeartbeats 4000000 in
theorem addB (oM : MemO O) {h : PT ABlk} {n : Nat} {d : Rl → Nat} {C : Rl → Option ABlk} {W : List Int} {L : List Value} {k a : Nat} {th x : Int} (S : St h n d C) (M : IsM d C W L k) (hk : k ≤ 100000) (ht : 0 ≤ th ∧ th < 64) (ha : a < W.length) :
  EvB Tryz.prog O 170 [pt (d rM), I6 th, I6 a, U6 x] h n fun v h' n' => ∃ g, n ≤ g ∧ g < n' ∧ v = tup [U6 (IntKind.u64.wrap (W[a] + x)), I6 0] ∧ St h' n' (upd d rL g) (memC C (d rW) g (W.set a (IntKind.u64.wrap (W[a] + x))) (L ++ accV th a 3 (IntKind.u64.wrap (IntKind.u64.wrap (W[a] + x) - x)) (IntKind.u64.wrap (W[a] + x)) false) (k + 1)) := by
 obtain ⟨m1, m2, m3, m4⟩ := M
 obtain ⟨o1, o2, o3, o4, o5, o6⟩ := oM
 have g1 := S.at m1
 have g2 := S.at m2
 have n1 := S.lt m1
 have n2 := S.lt m2
 have d1 := S.df m1 m2 (by decide)
 have hg := mapW_get ha
 have a1 : (0 : Int) ≤ (a : Int) := by omega
 have a2 : (a : Int) < (W.length : Int) := by omega
 obtain ⟨t1, t2⟩ := ht
 have hk2 : k + 1 ≤ 1048576 := by omega
 have hls : (W.set a (IntKind.u64.wrap (W[a] + x))).length = W.length := List.length_set
 have hms : (W.map (Value.int .u64)).set a (.int .u64 (IntKind.u64.wrap (W[a] + x))) = (W.set a (IntKind.u64.wrap (W[a] + x))).map (.int .u64) := by rw [List.map_set]
 have S1 := S.set rW (.cells (PT.ofList .leaf 0 ((W.set a (IntKind.u64.wrap (W[a] + x))).map (.int .u64))) false) m2 rfl
 have e1 : ∀ {A}, C rM = some A → (upd C rW (row ((W.set a (IntKind.u64.wrap (W[a] + x))).map (.int .u64)))) rM = some A := fun q => by rw [upd_tag (by decide)]; exact q
 have e2 : ∀ {A}, C rM = some A → (upd (upd C rW (row ((W.set a (IntKind.u64.wrap (W[a] + x))).map (.int .u64)))) rL none) rM = some A := fun q => by rw [upd_tag (by decide), upd_tag (by decide)]; exact q
 have e3 : ∀ {A}, C rL = some A → (upd C rW (row ((W.set a (IntKind.u64.wrap (W[a] + x))).map (.int .u64)))) rL = some A := fun q => by rw [upd_tag (by decide)]; exact q
 generalize hy : W[a] = y at *
 generalize hs9 : IntKind.u64.wrap (y + x) = s9 at *
 generalize hy9 : IntKind.u64.wrap (s9 - x) = y9 at *
 generalize W.set a s9 = W2 at *
 refine EvB_run (N := 36) Tryz.func170 rfl rfl fun z hP hO hro hN hQ => ?_
 rcases m3 with ⟨rfl, rfl⟩ | ⟨k0, m3⟩
 ·have e0 : lgV (d rL) 0 = .slice none 0 0 := if_pos rfl
  rw [e0] at g1
  clear e0
  repeat' first | simp (maxSteps := 2000000) (disch := first | omega | assumption) only [go_sem, *] | (apply xs <;> intro _) <;> try omega | refine fun (_ _ : List Nat) => ?_ | (first | refine inQ Tryz.func89 rfl ?_ ?_ ?_ ?_ | refine inQ Tryz.func174 rfl ?_ ?_ ?_ ?_ | refine inQ Tryz.func146 rfl ?_ ?_ ?_ ?_ | fail) <;> intros
  exact ⟨_, by omega, by omega, ((S1.junk (Nat.le_refl _) (Nat.lt_succ_self _)).fin (e1 m1) (Nat.le_refl _) (Nat.lt_succ_self _) _ _).eq (by unfold memC; rw [hls]; rfl) rfl⟩
 ·have e0 : lgV (d rL) k = .slice (some ⟨d rL, 0, none⟩) k (capInf + 6) := if_neg (by omega)
  rw [e0] at g1
  have g3 := S.at m3
  have n3 := S.lt m3
  have d2 := S.df m1 m3 (by decide)
  have d3 := S.df m2 m3 (by decide)
  have htk : List.take (k * 6) L = L := List.take_of_length_le (by omega)
  clear e0
  repeat' first | simp (maxSteps := 2000000) (disch := first | omega | assumption) only [go_sem, *] | (apply xs <;> intro _) <;> try omega | refine fun (_ _ : List Nat) => ?_ | (first | refine inQ Tryz.func89 rfl ?_ ?_ ?_ ?_ | refine inQ Tryz.func174 rfl ?_ ?_ ?_ ?_ | refine inQ Tryz.func146 rfl ?_ ?_ ?_ ?_ | fail) <;> intros
  exact ⟨_, by omega, by omega, (((S1.junk (Nat.le_refl _) (Nat.lt_succ_self _)).kill rL (e3 m3) rfl).fin (e2 m1) (Nat.le_refl _) (Nat.lt_succ_self _) _ _).eq (by unfold memC; rw [upd_upd]; rw [hls]; rfl) rfl⟩
set_option maxHeartbeats 4000000 in
theorem casB (oM : MemO O) {h : PT ABlk} {n : Nat} {d : Rl → Nat} {C : Rl → Option ABlk} {W : List Int} {L : List Value} {k a : Nat} {th o x : Int} (S : St h n d C) (M : IsM d C W L k) (hk : k ≤ 100000) (ht : 0 ≤ th ∧ th < 64) (ha : a < W.length) (hc : W[a] = o) :
  EvB Tryz.prog O 183 [pt (d rM), I6 th, I6 a, U6 o, U6 x] h n fun v h' n' => ∃ g, n ≤ g ∧ g < n' ∧ v = tup [.bool true, I6 0] ∧ St h' n' (upd d rL g) (memC C (d rW) g (W.set a x) (L ++ accV th a 4 o x true) (k + 1)) := by
 obtain ⟨m1, m2, m3, m4⟩ := M
 obtain ⟨o1, o2, o3, o4, o5, o6⟩ := oM
 have g1 := S.at m1
 have g2 := S.at m2
 have n1 := S.lt m1
 have n2 := S.lt m2
 have d1 := S.df m1 m2 (by decide)
 have hg := mapW_get ha
 have a1 : (0 : Int) ≤ (a : Int) := by omega
 have a2 : (a : Int) < (W.length : Int) := by omega
 obtain ⟨t1, t2⟩ := ht
 have hk2 : k + 1 ≤ 1048576 := by omega
 have hls : (W.set a x).length = W.length := List.length_set
 have hms : (W.map (Value.int .u64)).set a (.int .u64 x) = (W.set a x).map (.int .u64) := by rw [List.map_set]
 have S1 := S.set rW (.cells (PT.ofList .leaf 0 ((W.set a x).map (.int .u64))) false) m2 rfl
 have e1 : ∀ {A}, C rM = some A → (upd C rW (row ((W.set a x).map (.int .u64)))) rM = some A := fun q => by rw [upd_tag (by decide)]; exact q
 have e2 : ∀ {A}, C rM = some A → (upd (upd C rW (row ((W.set a x).map (.int .u64)))) rL none) rM = some A := fun q => by rw [upd_tag (by decide), upd_tag (by decide)]; exact q
 have e3 : ∀ {A}, C rL = some A → (upd C rW (row ((W.set a x).map (.int .u64)))) rL = some A := fun q => by rw [upd_tag (by decide)]; exact q
 have hg2 : ((W.set a x).map (Value.int .u64))[a]? = some (.int .u64 x) := by rw [List.getElem?_map, List.getElem?_set_self ha]; rfl
 have hbo : (o == o) = true := by simp
 rw [hc] at hg
 clear hc
 generalize W.set a x = W2 at *
 refine EvB_run (N := 52) Tryz.func183 rfl rfl fun z hP hO hro hN hQ => ?_
 rcases m3 with ⟨rfl, rfl⟩ | ⟨k0, m3⟩
 ·have e0 : lgV (d rL) 0 = .slice none 0 0 := if_pos rfl
  rw [e0] at g1
  clear e0
  repeat' first | simp (maxSteps := 2000000) (disch := first | omega | assumption) only [go_sem, *] | (apply xs <;> intro _) <;> try omega | refine fun (_ _ : List Nat) => ?_ | (first | refine inQ Tryz.func89 rfl ?_ ?_ ?_ ?_ | refine inQ Tryz.func90 rfl ?_ ?_ ?_ ?_ | refine inQ Tryz.func187 rfl ?_ ?_ ?_ ?_ | refine inQ Tryz.func146 rfl ?_ ?_ ?_ ?_ | fail) <;> intros
  exact ⟨_, by omega, by omega, ((S1.junk (Nat.le_refl _) (Nat.lt_succ_self _)).fin (e1 m1) (Nat.le_refl _) (Nat.lt_succ_self _) _ _).eq (by unfold memC; rw [hls]; rfl) rfl⟩
 ·have e0 : lgV (d rL) k = .slice (some ⟨d rL, 0, none⟩) k (capInf + 6) := if_neg (by omega)
  rw [e0] at g1
  have g3 := S.at m3
  have n3 := S.lt m3
  have d2 := S.df m1 m3 (by decide)
  have d3 := S.df m2 m3 (by decide)
  have htk : List.take (k * 6) L = L := List.take_of_length_le (by omega)
  clear e0
  repeat' first | simp (maxSteps := 2000000) (disch := first | omega | assumption) only [go_sem, *] | (apply xs <;> intro _) <;> try omega | refine fun (_ _ : List Nat) => ?_ | (first | refine inQ Tryz.func89 rfl ?_ ?_ ?_ ?_ | refine inQ Tryz.func90 rfl ?_ ?_ ?_ ?_ | refine inQ Tryz.func187 rfl ?_ ?_ ?_ ?_ | refine inQ Tryz.func146 rfl ?_ ?_ ?_ ?_ | fail) <;> intros
  exact ⟨_, by omega, by omega, (((S1.junk (Nat.le_refl _) (Nat.lt_succ_self _)).kill rL (e3 m3) rfl).fin (e2 m1) (Nat.le_refl _) (Nat.lt_succ_self _) _ _).eq (by unfold memC; rw [upd_upd]; rw [hls]; rfl) rfl⟩
set_option maxHeartbeats 4000000 in
theorem casfB (oM : MemO O) {h : PT ABlk} {n : Nat} {d : Rl → Nat} {C : Rl → Option ABlk} {W : List Int} {L : List Value} {k a : Nat} {th o x : Int} (S : St h n d C) (M : IsM d C W L k) (hk : k ≤ 100000) (ht : 0 ≤ th ∧ th < 64) (ha : a < W.length) (hc : W[a] ≠ o) :
  EvB Tryz.prog O 183 [pt (d rM), I6 th, I6 a, U6 o, U6 x] h n fun v h' n' => ∃ g, n ≤ g ∧ g < n' ∧ v = tup [.bool false, I6 0] ∧ St h' n' (upd d rL g) (memC C (d rW) g (W) (L ++ accV th a 4 W[a] W[a] false) (k + 1)) := by
 obtain ⟨m1, m2, m3, m4⟩ := M
 obtain ⟨o1, o2, o3, o4, o5, o6⟩ := oM
 have g1 := S.at m1
 have g2 := S.at m2
 have n1 := S.lt m1
 have n2 := S.lt m2
 have d1 := S.df m1 m2 (by decide)
 have hg := mapW_get ha
 have a1 : (0 : Int) ≤ (a : Int) := by omega
 have a2 : (a : Int) < (W.length : Int) := by omega
 obtain ⟨t1, t2⟩ := ht
 have hk2 : k + 1 ≤ 1048576 := by omega
 have S1 := S
 have e1 : ∀ {A}, C rM = some A → C rM = some A := fun q => q
 have e2 : ∀ {A}, C rM = some A → (upd C rL none) rM = some A := fun q => by rw [upd_tag (by decide)]; exact q
 have e3 : ∀ {A}, C rL = some A → C rL = some A := fun q => q
 have m2' := upd_id m2
 have hbo : (W[a] == o) = false := by simpa using hc
 generalize W[a] = y at *
 clear hc
 refine EvB_run (N := 52) Tryz.func183 rfl rfl fun z hP hO hro hN hQ => ?_
 rcases m3 with ⟨rfl, rfl⟩ | ⟨k0, m3⟩
 ·have e0 : lgV (d rL) 0 = .slice none 0 0 := if_pos rfl
  rw [e0] at g1
  clear e0
  repeat' first | simp (maxSteps := 2000000) (disch := first | omega | assumption) only [go_sem, *] | (apply xs <;> intro _) <;> try omega | refine fun (_ _ : List Nat) => ?_ | (first | refine inQ Tryz.func89 rfl ?_ ?_ ?_ ?_ | refine inQ Tryz.func90 rfl ?_ ?_ ?_ ?_ | refine inQ Tryz.func187 rfl ?_ ?_ ?_ ?_ | refine inQ Tryz.func146 rfl ?_ ?_ ?_ ?_ | fail) <;> intros
  exact ⟨_, by omega, by omega, ((S1.junk (Nat.le_refl _) (Nat.lt_succ_self _)).fin (e1 m1) (Nat.le_refl _) (Nat.lt_succ_self _) _ _).eq (by unfold memC; rw [m2']; rfl) rfl⟩
 ·have e0 : lgV (d rL) k = .slice (some ⟨d rL, 0, none⟩) k (capInf + 6) := if_neg (by omega)
  rw [e0] at g1
  have g3 := S.at m3
  have n3 := S.lt m3
  have d2 := S.df m1 m3 (by decide)
  have d3 := S.df m2 m3 (by decide)
  have htk : List.take (k * 6) L = L := List.take_of_length_le (by omega)
  clear e0
  repeat' first | simp (maxSteps := 2000000) (disch := first | omega | assumption) only [go_sem, *] | (apply xs <;> intro _) <;> try omega | refine fun (_ _ : List Nat) => ?_ | (first | refine inQ Tryz.func89 rfl ?_ ?_ ?_ ?_ | refine inQ Tryz.func90 rfl ?_ ?_ ?_ ?_ | refine inQ Tryz.func187 rfl ?_ ?_ ?_ ?_ | refine inQ Tryz.func146 rfl ?_ ?_ ?_ ?_ | fail) <;> intros
  exact ⟨_, by omega, by omega, (((S1.junk (Nat.le_refl _) (Nat.lt_succ_self _)).kill rL (e3 m3) rfl).fin (e2 m1) (Nat.le_refl _) (Nat.lt_succ_self _) _ _).eq (by unfold memC; rw [upd_upd]; rw [m2']; rfl) rfl⟩
end Go.Proofs.YtbceiadaihphaaaGreat
set_option linter.unusedVariables false
set_option linter.unusedSimpArgs false
namespace Go.Proofs.YtbceiadaihphaaaGreat
open Go.Am
def miQ (u : Option TypeDesc) (t : TypeId) (x : Value) : AP ANext := match u with
 | some (.interface _) => .fail "makeInterface"
 | some _ => .pure (.value (.iface t x))
 | none => .fail "makeInterface"
@[go_sem] theorem miQ_ptr {e t : TypeId} {x : Value} : miQ (some (.pointer e)) t x = .pure (.value (.iface t x)) := rfl
@[go_sem] theorem miQ_struct {fs : Array Field} {t : TypeId} {x : Value} : miQ (some (.struct fs)) t x = .pure (.value (.iface t x)) := rfl
@[go_sem] theorem aOp_mkI {P : Program} {ρ : Operand → Value} {d : Option Tmp} {ty t : TypeId} {x : Operand} {pos : String} {af : Array Edge} {g : Option (Nat × Bool)} : aOp P ρ ⟨d, .makeInterface t x, ty, pos, af, g⟩ = miQ (P.underlying t) t (ρ x) := by
 show (aMakeInterface P t (ρ x)).bind _ = _
 unfold aMakeInterface miQ
 cases P.underlying t with
 | none => rfl
 | some u => cases u <;> rfl
section
variable {P : Program} {t : TypeId} {cx cy : Bool}
def fnQ (u : Option TypeDesc) (b : Bool) : AP ANext := match u with
 | some (.func _ _ _) => .pure (.value (.bool b))
 | _ => .fail "equal"
@[go_sem] theorem fnQ_func {ps rs : Array TypeId} {v b : Bool} : fnQ (some (.func ps rs v)) b = .pure (.value (.bool b)) := rfl
theorem aEq_fn1 {f : Fn} {a b : Array Value} (D : Nat) : aEqual P (D + 1) t (.func f a b) .nilFunc = match P.underlying t with | some (.func _ _ _) => .pure false | _ => .fail "equal" := by
 unfold aEqual
 cases P.underlying t with
 | none => rfl
 | some u => cases u <;> rfl
theorem aEq_fn2 (D : Nat) : aEqual P (D + 1) t .nilFunc .nilFunc = match P.underlying t with | some (.func _ _ _) => .pure true | _ => .fail "equal" := by
 unfold aEqual
 cases P.underlying t with
 | none => rfl
 | some u => cases u <;> rfl
@[go_sem] theorem binV_eq_fn {f : Fn} {a b : Array Value} : binV P .eql t cx cy (.func f a b) .nilFunc = fnQ (P.underlying t) false := by
 have q : binV P .eql t cx cy (.func f a b) .nilFunc = AP.bind ((aEqual P (11 + 1) t (.func f a b) .nilFunc).bind fun b => .pure (.bool b)) fun v => .pure (.value v) := by simp only [binV, aBinOp, eqGuardOk, cond_true]
 rw [q, aEq_fn1]; unfold fnQ
 cases P.underlying t with
 | none => rfl
 | some u => cases u <;> rfl
@[go_sem] theorem binV_ne_fn {f : Fn} {a b : Array Value} : binV P .neq t cx cy (.func f a b) .nilFunc = fnQ (P.underlying t) true := by
 have q : binV P .neq t cx cy (.func f a b) .nilFunc = AP.bind ((aEqual P (11 + 1) t (.func f a b) .nilFunc).bind fun b => .pure (.bool !b)) fun v => .pure (.value v) := by simp only [binV, aBinOp, eqGuardOk, cond_true]
 rw [q, aEq_fn1]; unfold fnQ
 cases P.underlying t with
 | none => rfl
 | some u => cases u <;> rfl
@[go_sem] theorem binV_eq_nf : binV P .eql t cx cy .nilFunc .nilFunc = fnQ (P.underlying t) true := by
 have q : binV P .eql t cx cy .nilFunc .nilFunc = AP.bind ((aEqual P (11 + 1) t .nilFunc .nilFunc).bind fun b => .pure (.bool b)) fun v => .pure (.value v) := by simp only [binV, aBinOp, eqGuardOk, cond_true]
 rw [q, aEq_fn2]; unfold fnQ
 cases P.underlying t with
 | none => rfl
 | some u => cases u <;> rfl
@[go_sem] theorem binV_ne_nf : binV P .neq t cx cy .nilFunc .nilFunc = fnQ (P.underlying t) false := by
 have q : binV P .neq t cx cy .nilFunc .nilFunc = AP.bind ((aEqual P (11 + 1) t .nilFunc .nilFunc).bind fun b => .pure (.bool !b)) fun v => .pure (.value v) := by simp only [binV, aBinOp, eqGuardOk, cond_true]
 rw [q, aEq_fn2]; unfold fnQ
 cases P.underlying t with
 | none => rfl
 | some u => cases u <;> rfl
end
@[go_sem] theorem op_inv {r : Operand} {nm : String} {ys : Array Operand} {ts : Array TypeId} : (Op.call ⟨.invoke r nm, ys, ts⟩).operands = #[r] ++ ys := rfl
@[go_sem] theorem mth1 {p : Addr} {args : List Value} : aCallMethod Tryz.prog (.iface 146 (.agg ⟨[.iface 140 (.pointer (some p))]⟩)) "Enter" args = .pure (.enter 148 (.agg ⟨[.iface 140 (.pointer (some p))]⟩ :: args)) := by kernel_rfl
@[go_sem] theorem mth2 {p : Addr} {args : List Value} : aCallMethod Tryz.prog (.iface 146 (.agg ⟨[.iface 140 (.pointer (some p))]⟩)) "Wait" args = .pure (.enter 149 (.agg ⟨[.iface 140 (.pointer (some p))]⟩ :: args)) := by kernel_rfl
@[go_sem] theorem mth3 {p : Addr} {args : List Value} : aCallMethod Tryz.prog (.iface 146 (.agg ⟨[.iface 140 (.pointer (some p))]⟩)) "Exit" args = .pure (.enter 133 (.pointer (some p) :: args)) := by kernel_rfl
@[go_sem] theorem mth5 {p : Addr} {args : List Value} : aCallMethod Tryz.prog (.iface 140 (.pointer (some p))) "Enter" args = .pure (.enter 132 (.pointer (some p) :: args)) := by kernel_rfl
@[go_sem] theorem mth6 {p : Addr} {args : List Value} : aCallMethod Tryz.prog (.iface 140 (.pointer (some p))) "Wait" args = .pure (.enter 135 (.pointer (some p) :: args)) := by kernel_rfl
@[go_sem] theorem mth7 {p : Addr} {args : List Value} : aCallMethod Tryz.prog (.iface 258 (.pointer (some p))) "Step" args = .pure (.enter 200 (.pointer (some p) :: args)) := by kernel_rfl
@[go_sem] theorem mth8 {p : Addr} {args : List Value} : aCallMethod Tryz.prog (.iface 258 (.pointer (some p))) "Next" args = .pure (.enter 199 (.pointer (some p) :: args)) := by kernel_rfl
@[go_sem] theorem mth9 {p : Addr} {args : List Value} : aCallMethod Tryz.prog (.iface 261 (.pointer (some p))) "Step" args = .pure (.enter 202 (.pointer (some p) :: args)) := by kernel_rfl
@[go_sem] theorem mth10 {p : Addr} {args : List Value} : aCallMethod Tryz.prog (.iface 261 (.pointer (some p))) "Next" args = .pure (.enter 201 (.pointer (some p) :: args)) := by kernel_rfl
@[go_sem] theorem mth11 {p : Addr} {args : List Value} : aCallMethod Tryz.prog (.iface 153 (.agg ⟨[.iface 147 (.pointer (some p))]⟩)) "Enter" args = .pure (.enter 159 (.agg ⟨[.iface 147 (.pointer (some p))]⟩ :: args)) := by kernel_rfl
@[go_sem] theorem mth12 {p : Addr} {args : List Value} : aCallMethod Tryz.prog (.iface 153 (.agg ⟨[.iface 147 (.pointer (some p))]⟩)) "Wait" args = .pure (.enter 160 (.agg ⟨[.iface 147 (.pointer (some p))]⟩ :: args)) := by kernel_rfl
@[go_sem] theorem mth13 {p : Addr} {args : List Value} : aCallMethod Tryz.prog (.iface 153 (.agg ⟨[.iface 147 (.pointer (some p))]⟩)) "Exit" args = .pure (.enter 153 (.pointer (some p) :: args)) := by kernel_rfl
@[go_sem] theorem mth15 {p : Addr} {args : List Value} : aCallMethod Tryz.prog (.iface 147 (.pointer (some p))) "Enter" args = .pure (.enter 152 (.pointer (some p) :: args)) := by kernel_rfl
@[go_sem] theorem mth16 {p : Addr} {args : List Value} : aCallMethod Tryz.prog (.iface 147 (.pointer (some p))) "Wait" args = .pure (.enter 155 (.pointer (some p) :: args)) := by kernel_rfl
@[go_sem] theorem mth17 {p : Addr} {args : List Value} : aCallMethod Tryz.prog (.iface 274 (.pointer (some p))) "Step" args = .pure (.enter 204 (.pointer (some p) :: args)) := by kernel_rfl
@[go_sem] theorem mth18 {p : Addr} {args : List Value} : aCallMethod Tryz.prog (.iface 274 (.pointer (some p))) "Next" args = .pure (.enter 203 (.pointer (some p) :: args)) := by kernel_rfl
@[go_sem] theorem mth19 {p : Addr} {args : List Value} : aCallMethod Tryz.prog (.iface 282 (.pointer (some p))) "Step" args = .pure (.enter 209 (.pointer (some p) :: args)) := by kernel_rfl
@[go_sem] theorem mth20 {p : Addr} {args : List Value} : aCallMethod Tryz.prog (.iface 282 (.pointer (some p))) "Next" args = .pure (.enter 208 (.pointer (some p) :: args)) := by kernel_rfl
@[go_sem] theorem mth21 {p : Addr} {args : List Value} : aCallMethod Tryz.prog (.iface 160 (.agg ⟨[.iface 154 (.pointer (some p))]⟩)) "Enter" args = .pure (.enter 194 (.agg ⟨[.iface 154 (.pointer (some p))]⟩ :: args)) := by kernel_rfl
@[go_sem] theorem mth22 {p : Addr} {args : List Value} : aCallMethod Tryz.prog (.iface 160 (.agg ⟨[.iface 154 (.pointer (some p))]⟩)) "Wait" args = .pure (.enter 195 (.agg ⟨[.iface 154 (.pointer (some p))]⟩ :: args)) := by kernel_rfl
@[go_sem] theorem mth23 {p : Addr} {args : List Value} : aCallMethod Tryz.prog (.iface 160 (.agg ⟨[.iface 154 (.pointer (some p))]⟩)) "Exit" args = .pure (.enter 164 (.pointer (some p) :: args)) := by kernel_rfl
@[go_sem] theorem mth25 {p : Addr} {args : List Value} : aCallMethod Tryz.prog (.iface 154 (.pointer (some p))) "Enter" args = .pure (.enter 163 (.pointer (some p) :: args)) := by kernel_rfl
@[go_sem] theorem mth26 {p : Addr} {args : List Value} : aCallMethod Tryz.prog (.iface 154 (.pointer (some p))) "Wait" args = .pure (.enter 166 (.pointer (some p) :: args)) := by kernel_rfl
@[go_sem] theorem mth27 {p : Addr} {args : List Value} : aCallMethod Tryz.prog (.iface 291 (.pointer (some p))) "Step" args = .pure (.enter 216 (.pointer (some p) :: args)) := by kernel_rfl
@[go_sem] theorem mth28 {p : Addr} {args : List Value} : aCallMethod Tryz.prog (.iface 291 (.pointer (some p))) "Next" args = .pure (.enter 215 (.pointer (some p) :: args)) := by kernel_rfl
@[go_sem] theorem mth29 {p : Addr} {args : List Value} : aCallMethod Tryz.prog (.iface 302 (.pointer (some p))) "Step" args = .pure (.enter 218 (.pointer (some p) :: args)) := by kernel_rfl
@[go_sem] theorem mth30 {p : Addr} {args : List Value} : aCallMethod Tryz.prog (.iface 302 (.pointer (some p))) "Next" args = .pure (.enter 217 (.pointer (some p) :: args)) := by kernel_rfl
end Go.Proofs.YtbceiadaihphaaaGreat
