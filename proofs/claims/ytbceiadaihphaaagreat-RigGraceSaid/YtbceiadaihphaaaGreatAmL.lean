/-
  The abstract machine: append's simulation.
-/
import Derived.Test.YtbceiadaihphaaaGreatAmK
set_option linter.unusedSimpArgs false
set_option linter.unusedVariables false
namespace Go.Am
open Go.RowKit
section
variable {P : Program} {Γ : Emb} {W w : World} {h : PT ABlk} {n : Nat}
theorem append_room {t tx e : TypeId} {dx : TypeDesc} {i : TypeInfo} (ty : TypeId) (hd : P.underlying t = some (.slice e)) (hdx : P.underlying tx = some dx) (hni : ∀ k, dx ≠ .int k) (hi : P.info? e = some i)
  {base : Option Addr} {len cap' k : Nat} {x' : Value} {l' : List Value} (hlen : ∀ w, (Builtin.lenOf x').run P w = .ok k w) (hfirst : (Builtin.firstCells i.size k x').run P w = .ok ⟨l'⟩ w) (hroom : len + k ≤ cap') :
  (Builtin.append_ #[t, tx] ty #[.slice base len cap', x']).run P w =
   match base with
   | some a => ((storeCells (a.add (len * i.size)) l').run P w).andThen fun _ w => .ok (.slice base (len + k) cap') w
   | none => .ok (.slice base (len + k) cap') w := by
 unfold Builtin.append_
 simp only [List.getElem?_toArray, List.getElem?_cons_zero, List.getElem?_cons_succ, Sem.run_bind, run_und hd, run_und hdx, Result.andThen_ok, run_size hi, Sem.run_pure]
 simp only [Bool.false_eq_true, if_false, hlen, Result.andThen_ok, hroom, if_true, Sem.run_bind, Bool.not_false, hfirst]
 cases base with
 | none => rfl
 | some a => simp only [Sem.run_bind, Sem.run_pure]
theorem append_grow {t tx e : TypeId} {dx : TypeDesc} {i : TypeInfo} {z : Value} (ty : TypeId) (hd : P.underlying t = some (.slice e)) (hdx : P.underlying tx = some dx) (hni : ∀ k, dx ≠ .int k) (hi : P.info? e = some i)
  (hz : ∀ w, (zeroValue e).run P w = .ok z w) {base : Option Addr} {len cap' k : Nat} {x' : Value} {l' old' : List Value} (hlen : ∀ w, (Builtin.lenOf x').run P w = .ok k w)
  (hfirst : (Builtin.firstCells i.size k x').run P w.drew = .ok ⟨l'⟩ w.drew) (hold : (Builtin.firstCells i.size len (.slice base len cap')).run P w.drew = .ok ⟨old'⟩ w.drew)
  (hroom : ¬ len + k ≤ cap') (hsmall : len + k ≤ 1048576) (hbytes : i.bytes ≤ 65536) :
  ∃ newCap, len + k ≤ newCap ∧ (Builtin.append_ #[t, tx] ty #[.slice base len cap', x']).run P w =
   .ok (.slice (some ⟨w.heap.size, 0, none⟩) (len + k) newCap) (w.drew.alloc (.cells ((⟨old'⟩ : Array Value) ++ ⟨l'⟩ ++ Builtin.zeroCells z.cells (newCap - (len + k))) e)) := by
 refine ⟨Question.cut (.appendCap (len + k) cap' e) (w.tape w.drawn (.appendCap (len + k) cap' e)), by simp [Question.cut], ?_⟩
 unfold Builtin.append_
 simp only [List.getElem?_toArray, List.getElem?_cons_zero, List.getElem?_cons_succ, Sem.run_bind, run_und hd, run_und hdx, Result.andThen_ok, run_size hi, Sem.run_pure]
 have hbig : ¬ (((len + k : Nat) : Int) > IntKind.i64.max ∧ (False ∨ i.bytes = 0)) := by
  intro hh
  have : IntKind.i64.max = 9223372036854775807 := by simp [IntKind.max, IntKind.signed, IntKind.bits]
  rw [this] at hh
  omega
 have hnext : ¬ (Builtin.nextslicecap (len + k) cap' * i.bytes > 2 ^ 48) := by
  have h1 := nextslicecap_le (need := len + k) (c := cap') hsmall (by omega)
  have h2 : Builtin.nextslicecap (len + k) cap' * i.bytes ≤ 16777216 * 65536 := Nat.mul_le_mul h1 hbytes
  omega
 simp only [Bool.false_eq_true, if_false, hlen, Result.andThen_ok, hroom, Sem.run_bind, Bool.not_false, if_true, run_info hi]
 rw [if_neg hbig]
 simp only [Sem.run_bind, Sem.run_pure, Result.andThen_ok, run_info hi]
 rw [if_neg hnext]
 have hdr : ({ w with drawn := w.drawn + 1 } : World) = w.drew := rfl
 simp only [Sem.run_bind, Sem.run_pure, Result.andThen_ok, run_choose, Question.forced, Bool.false_eq_true, if_false, run_info hi, run_askRoom, hdr, hold, hfirst, hz, Go.newRow, run_newObj]
 rfl
theorem append_zero {t tx e : TypeId} {kx : IntKind} {i : TypeInfo} {z : Value} (ty : TypeId) (hd : P.underlying t = some (.slice e)) (hdx : P.underlying tx = some (.int kx)) (hi : P.info? e = some i)
  (hz : ∀ w, (zeroValue e).run P w = .ok z w) {k : IntKind} {n : Nat} (hn : 0 < n) (hs : 0 < i.size) (hsmall : 0 + n ≤ 1048576) (hbytes : i.bytes ≤ 65536) (hzs : z.cells.size = i.size) :
  ∃ newCap, 0 + n ≤ newCap ∧ (Builtin.append_ #[t, tx] ty #[.slice none 0 0, .int k n]).run P w =
   .ok (.slice (some ⟨w.heap.size, 0, none⟩) (0 + n) newCap) (w.drew.alloc (.cells ((⟨[]⟩ : Array Value) ++ ⟨rep z.cells.toList n⟩ ++ Builtin.zeroCells z.cells (newCap - (0 + n))) e)) := by
 refine ⟨Question.cut (.appendCap (0 + n) 0 e) (w.tape w.drawn (.appendCap (0 + n) 0 e)), by simp [Question.cut], ?_⟩
 unfold Builtin.append_
 simp only [List.getElem?_toArray, List.getElem?_cons_zero, List.getElem?_cons_succ, Sem.run_bind, run_und hd, run_und hdx, Result.andThen_ok, run_size hi, Sem.run_pure]
 have hwrap : IntKind.i64.wrap (n : Int) = n := by
  simp [IntKind.wrap, IntKind.bits, IntKind.signed]
  omega
 have hasInt : (asInt (.int k n)).run P w = .ok (n : Int) w := rfl
 have hneg : ¬ ((n : Int) < 0) := by omega
 have hbig0 : ¬ ((n : Int) * (i.bytes : Nat) > 2 ^ 48) := by
  have h2 : n * i.bytes ≤ 1048576 * 65536 := Nat.mul_le_mul (by omega) hbytes
  have : (n : Int) * (i.bytes : Nat) = ((n * i.bytes : Nat) : Int) := by simp
  rw [this]
  omega
 have hbig : ¬ (((0 + n : Nat) : Int) > IntKind.i64.max ∧ (True ∨ i.bytes = 0)) := by
  intro hh
  have : IntKind.i64.max = 9223372036854775807 := by simp [IntKind.max, IntKind.signed, IntKind.bits]
  rw [this] at hh
  omega
 have hnext : ¬ (Builtin.nextslicecap (0 + n) 0 * i.bytes > 2 ^ 48) := by
  have h1 := nextslicecap_le (need := 0 + n) (c := 0) hsmall (by omega)
  have h2 : Builtin.nextslicecap (0 + n) 0 * i.bytes ≤ 16777216 * 65536 := Nat.mul_le_mul h1 hbytes
  omega
 have hroom : ¬ 0 + n ≤ 0 := by omega
 have hns : ¬ n * i.size = 0 := by
  have := Nat.mul_pos hn hs
  omega
 simp only [hasInt, Result.andThen_ok, hwrap, if_true, hneg, if_false, run_info hi, Sem.run_bind, Sem.run_pure]
 rw [if_neg hbig0]
 simp only [Sem.run_bind, Sem.run_pure, Result.andThen_ok, Int.toNat_natCast, Bool.not_true, Bool.false_eq_true, if_false, hroom, run_info hi]
 rw [if_neg hbig]
 simp only [Sem.run_bind, Sem.run_pure, Result.andThen_ok, run_info hi]
 rw [if_neg hnext]
 have hdr : ({ w with drawn := w.drawn + 1 } : World) = w.drew := rfl
 have hfirst : ∀ w', (Builtin.firstCells i.size 0 (.slice none 0 0)).run P w' = .ok #[] w' := fun w' => rfl
 simp only [Sem.run_bind, Sem.run_pure, Result.andThen_ok, run_choose, Question.forced, Bool.false_eq_true, if_false, run_info hi, run_askRoom, hdr, hfirst, hns, hz, Go.newRow, run_newObj]
 have hrep : Builtin.zeroCells z.cells n = ⟨rep z.cells.toList n⟩ := rep_array z.cells n (by omega)
 rw [hrep]
 rfl
theorem beq_true {a b : Nat} (h : Nat.beq a b = true) : a = b := Nat.eq_of_beq_eq_true h
theorem aGrow_sim (hS : SRel Γ W h w) {i : TypeInfo} {z : Value} {len k : Nat} {old new old' new' : List Value} (ho : VRels Γ old old') (hn' : VRels Γ new new') {e : Sem Value} {el : TypeId}
  (he : len + k ≤ 1048576 → i.bytes ≤ 65536 → z.cells.size = i.size → ∃ newCap, len + k ≤ newCap ∧ e.run P w = .ok (.slice (some ⟨w.heap.size, 0, none⟩) (len + k) newCap)
      (w.drew.alloc (.cells ((⟨old'⟩ : Array Value) ++ ⟨new'⟩ ++ Builtin.zeroCells z.cells (newCap - (len + k))) el))) :
  SimAt P Γ W h n w (aGrow i z len k old new) e VRel := by
 unfold aGrow
 cases hc : (Nat.ble (len + k) 1048576 && Nat.ble i.bytes 65536 && Nat.beq z.cells.toList.length i.size && Nat.beq old.length (len * i.size) && Nat.beq new.length (k * i.size)) with
 | false => exact SimAt.fail
 | true =>
  simp only [Bool.and_eq_true] at hc
  have h1 := Nat.le_of_ble_eq_true hc.1.1.1.1
  have h2 := Nat.le_of_ble_eq_true hc.1.1.1.2
  have h3 := beq_true hc.1.1.2
  have h4 := beq_true hc.1.2
  have h5 := beq_true hc.2
  have hzs : z.cells.size = i.size := by rw [← h3]; simp
  obtain ⟨newCap, hle, hrun⟩ := he h1 h2 hzs
  simp only [cond_true]
  refine SimAt.new fun hn => ?_
  obtain ⟨Γ', hst, hb, hsz, hS'⟩ := hS.drew.allocCells hn (old ++ new) ((⟨old'⟩ : Array Value) ++ ⟨new'⟩ ++ Builtin.zeroCells z.cells (newCap - (len + k))) el (fun i v hv => by
   obtain ⟨v', e', r⟩ := (ho.append hn').get hv
   refine ⟨v', ?_, r⟩
   have hlt : i < (old' ++ new').length := by
    rcases Nat.lt_or_ge i (old' ++ new').length with hh | hh
    ·exact hh
    ·rw [List.getElem?_eq_none hh] at e'; simp at e'
   rw [Array.getElem?_append_left (by simpa using hlt)]
   simpa using e')
  refine ⟨Γ', _, pure (.slice (some ⟨w.heap.size, 0, none⟩) (len + k) newCap), hst, hrun, SimAt.ok hS' rfl (.slice _ _ _ _ _ (.inl ⟨rfl, rfl, 0, by simpa using hb, by simp⟩) ?_)⟩
  unfold Emb.cap
  rw [if_pos (by omega)]
  refine ⟨hle, _, hsz, ?_⟩
  have hl1 := ho.length
  have hl2 := hn'.length
  simp only [Array.size_append, Builtin.zeroCells, Array.size_map, Array.size_range, Nat.add_sub_cancel_left, Nat.zero_add, hzs]
  have e1 : (⟨old'⟩ : Array Value).size = len * i.size := by show old'.length = _; omega
  have e2 : (⟨new'⟩ : Array Value).size = k * i.size := by show new'.length = _; omega
  rw [e1, e2, ← Nat.add_mul, ← Nat.add_mul]
  exact Nat.mul_le_mul_right _ (by omega)
theorem storeCells_free : ∀ (l' : List Value) (k : Nat) (w : World) (a' : Addr) (cs : Array Value) (el : TypeId), a'.spot = none → (∀ v ∈ l', v.oneCell' = true) →
  w.heap[a'.block]? = some (.cells cs el (0, 0)) → a'.off + k + l'.length ≤ cs.size →
  ∃ w₁ cs₁, (storeCells a' l' k).run P w = .ok () w₁ ∧ w₁.heap[a'.block]? = some (.cells cs₁ el (0, 0)) ∧ cs₁.size = cs.size ∧
   (∀ j, j < l'.length → cs₁[a'.off + k + j]? = l'[j]?) ∧ (∀ p, p < a'.off + k → cs₁[p]? = cs[p]?) ∧
   (∀ (Γ : Emb) (W : World) (h : PT ABlk), SRel Γ W h w → W.heap.size ≤ a'.block → (∀ j B b s, h.get j = some B → Γ.blk j = some (b, s) → b ≠ a'.block) → SRel Γ W h w₁)
 | [], k, w, a', cs, el, hs, ho, hb, hsz => ⟨w, cs, rfl, hb, rfl, fun j hj => absurd hj (by simp), fun p _ => rfl, fun _ _ _ hS _ _ => hS⟩
 | v :: l', k, w, a', cs, el, hs, ho, hb, hsz => by
  simp only [List.length_cons] at hsz
  have hadd : (a'.add k).block = a'.block ∧ (a'.add k).off = a'.off + k ∧ (a'.add k).spot = none := by
   unfold Addr.add; split
   ·rename_i hk; exact ⟨rfl, by omega, hs⟩
   ·exact ⟨rfl, rfl, rfl⟩
  have hbk : w.heap[(a'.add k).block]? = some (.cells cs el (0, 0)) := by rw [hadd.1]; exact hb
  have hset := heap_setCell_same (v := v) hadd.2.2 hbk
  rw [hadd.1, hadd.2.1] at hset
  obtain ⟨w₁, cs₁, hrun, hb₁, hsz₁, hnew, hold, hrel⟩ := storeCells_free l' (k + 1) (w.setCell (a'.add k) v) a' (cs.setIfInBounds (a'.off + k) v) el hs (fun u hu => ho u (by simp [hu])) hset (by simp; omega)
  refine ⟨w₁, cs₁, ?_, hb₁, by simpa using hsz₁, ?_, ?_, ?_⟩
  ·have hc : w.cell? (a'.add k) = some cs[a'.off + k] := by
    rw [cell?_of_heap hadd.2.2 hbk, hadd.2.1]
    simp [show a'.off + k < cs.size by omega]
   have hf : w.frozen? (a'.add k) = false := by simp [World.frozen?, hbk]
   simp only [storeCells, Sem.run_bind, run_store P w _ _ .plain (ho v (by simp)), hc, hf]
   simpa using hrun
  ·intro j hj
   cases j with
   | zero =>
    rw [hold _ (by omega)]
    simp [show a'.off + k < cs.size by omega]
   | succ j =>
    have := hnew j (by simpa using hj)
    rw [show a'.off + k + (j + 1) = a'.off + (k + 1) + j by omega, this]
    simp
  ·intro p hp
   rw [hold p (by omega), Array.getElem?_setIfInBounds_ne (by omega)]
  ·intro Γ W h hS hlow hfree
   refine hrel Γ W h (hS.setCellFree hadd.2.2 v (by rw [hadd.1]; exact hlow) (fun j B b s hj hb => by rw [hadd.1]; exact hfree j B b s hj hb)) hlow hfree
theorem VRels.oneCell {l l' : List Value} (hl : VRels Γ l l') (ha : l.all Am.oneCell = true) : ∀ v ∈ l', v.oneCell' = true := by
 induction l generalizing l' with
 | nil => cases hl; simp
 | cons v l ih =>
  cases hl with
  | cons _ v' _ l' hv ht =>
   simp only [List.all_cons, Bool.and_eq_true] at ha
   intro u hu
   rcases List.mem_cons.1 hu with rfl | hu
   ·exact hv.oneCell' ha.1
   ·exact ih ht ha.2 u hu
theorem aAppendTo_sim (hS : SRel Γ W h w) {t tx e : TypeId} {dx : TypeDesc} {i : TypeInfo} {z : Value} (ty : TypeId) (hd : P.underlying t = some (.slice e)) (hdx : P.underlying tx = some dx) (hni : ∀ k, dx ≠ .int k) (hi : P.info? e = some i)
  (hz : ∀ w, (zeroValue e).run P w = .ok z w) {base base' : Option Addr} {len cap cap' k : Nat} {x x' : Value} {new : List Value} (hs : VRel Γ (.slice base len cap) (.slice base' len cap')) (hx : VRel Γ x x') (hf : FirstOk h i.size x k new) :
  SimAt P Γ W h n w (aAppendTo i z base len cap k new) (Builtin.append_ #[t, tx] ty #[.slice base' len cap', x']) VRel := by
 obtain ⟨new', hnew, hrun0, hlenof⟩ := hf.run (P := P) hS hx
 obtain ⟨new2, hnew2, hrund, _⟩ := hf.run (P := P) hS.drew hx
 -- the same list either way
 unfold aAppendTo
 cases hc0 : (Nat.beq k 0 && Nat.ble len cap && new.isEmpty) with
 | true =>
  simp only [Bool.and_eq_true] at hc0
  obtain rfl := beq_true hc0.1.1
  have hle := Nat.le_of_ble_eq_true hc0.1.2
  have hemp : new = [] := by simpa using hc0.2
  subst hemp
  cases hnew
  have hcap : len + 0 ≤ cap' := by
   cases hs with
   | nilslice => omega
   | slice a a' _ _ _ ha hc =>
    unfold Emb.cap at hc
    split at hc
    ·exact hc.1
    ·omega
  refine SimAt.ok hS (b := .slice base' len cap') ?_ hs
  rw [append_room ty hd hdx hni hi hlenof hrun0 hcap]
  cases base' with
  | none => rfl
  | some a => simp [storeCells]
 | false =>
  simp only [cond_false]
  cases hinf : Nat.ble capInf cap with
  | true =>
   have hinf' := Nat.le_of_ble_eq_true hinf
   simp only [cond_true]
   split
   ·rename_i a
    cases hs with
    | slice _ a' _ _ _ ha hcap =>
     unfold Emb.cap at hcap
     rw [if_pos hinf'] at hcap
     obtain ⟨hlc, N, hN, hroomN⟩ := hcap
     cases hc : (Nat.beq cap (capInf + i.size) && new.all oneCell) with
     | false => exact SimAt.fail
     | true =>
      simp only [Bool.and_eq_true] at hc
      have hcs := beq_true hc.1
      simp only [cond_true]
      refine SimAt.get fun B hB => ?_
      split
      ·rename_i c
       split
       ·rename_i old hold
        refine SimAt.kill ?_
        have hSk := hS.kill a.block
        obtain ⟨s, hblk⟩ := ha.block (by unfold capInf at hinf'; omega)
        obtain ⟨b0, s0, hblk0, hBR, hlow⟩ := hS.live _ _ hB
        rw [hblk] at hblk0
        obtain ⟨rfl, rfl⟩ : a'.block = b0 ∧ s = s0 := by simpa using hblk0
        have hlow := hlow rfl
        obtain ⟨cs, el, fz, hb1, hb2, hb3⟩ := hBR
        obtain rfl := hb2 rfl
        have hfree : ∀ j B b s', (h.set a.block none).get j = some B → Γ.blk j = some (b, s') → b ≠ a'.block := by
         intro j B' b s' hj hb
         rw [PT.get_set] at hj
         by_cases hja : j = a.block
         ·rw [if_pos hja] at hj; simp at hj
         ·rw [if_neg hja] at hj
          exact Ne.symm (hS.disj _ _ _ _ _ _ _ _ (Ne.symm hja) hB hj hblk hb rfl)
        obtain ⟨cs0, el0, fz0, hb0, hN0⟩ := hS.siz _ _ hN
        rw [hb1] at hb0
        obtain ⟨rfl, rfl, rfl⟩ : cs = cs0 ∧ el = el0 ∧ (0, 0) = fz0 := by simpa using hb0
        by_cases hroom : len + k ≤ cap'
        ·-- in place
         intro lim rd wr av s' hr hfr
         unfold aGrow at hr
         cases hcc : (Nat.ble (len + k) 1048576 && Nat.ble i.bytes 65536 && Nat.beq z.cells.toList.length i.size && Nat.beq old.length (len * i.size) && Nat.beq new.length (k * i.size)) with
         | false => rw [hcc] at hr; simp [AP.run] at hr
         | true =>
          rw [hcc] at hr
          have hr0 : SimAt P Γ W (h.set a.block none) n w (.new (.cells (PT.ofList .leaf 0 (old ++ new)) false) fun id => .pure (.slice (some ⟨id, 0, none⟩) (len + k) (capInf + i.size)))
            (Builtin.append_ #[t, tx] ty #[.slice (some a') len cap', x']) VRel := by
           simp only [Bool.and_eq_true] at hcc
           have h4 := beq_true hcc.1.2
           have h5 := beq_true hcc.2
           have hnl := hnew.length
           refine SimAt.new fun hn => ?_
           have hao : (a'.add (len * i.size)).block = a'.block ∧ (a'.add (len * i.size)).off = a'.off + len * i.size ∧ (a'.add (len * i.size)).spot = none := by
            unfold Addr.add; split
            ·rename_i hk; exact ⟨rfl, by omega, (ha.spot' (by unfold capInf at hinf'; omega))⟩
            ·exact ⟨rfl, rfl, rfl⟩
           have hfit : (a'.add (len * i.size)).off + 0 + new'.length ≤ cs.size := by
            rw [hao.2.1, hN0]
            rw [hcs, Nat.add_sub_cancel_left] at hroomN
            have : (len + k) * i.size ≤ cap' * i.size := Nat.mul_le_mul_right _ hroom
            rw [Nat.add_mul] at this
            omega
           obtain ⟨w₁, cs₁, hst, hb₁, hsz₁, hn1, ho1, hrel⟩ := storeCells_free (P := P) new' 0 w (a'.add (len * i.size)) cs el hao.2.2 (hnew.oneCell hc.2) (by rw [hao.1]; exact hb1) hfit
           rw [hao.1] at hb₁
           have hSw := hrel Γ W _ hSk (by rw [hao.1]; exact hlow) (by rw [hao.1]; exact hfree)
           obtain ⟨hrl, hrg⟩ := readCells_spec _ _ _ _ hold
           obtain ⟨Γ', hstep, hbn, hS'⟩ := hSw.view hn (old ++ new) (b := a'.block) (s := a'.off) hb₁ hlow hfree (fun j v hv => by
            by_cases hj : j < old.length
            ·rw [List.getElem?_append_left hj] at hv
             obtain ⟨v', e', r⟩ := hb3 _ _ (hrg j v hv)
             have hlen0 : 0 < len := by
              rcases Nat.eq_zero_or_pos len with hz0 | hz0
              ·rw [hz0, Nat.zero_mul] at h4; omega
              ·exact hz0
             obtain ⟨s1, hblk1, ho'⟩ := (ha.exact (.inl hlen0)).at_
             rw [hblk] at hblk1
             obtain rfl : s = s1 := by simpa using hblk1
             refine ⟨v', ?_, r⟩
             rw [ho1 _ (by rw [hao.2.1]; omega), ← e']
             congr 1; omega
            ·rw [List.getElem?_append_right (by omega)] at hv
             obtain ⟨v', e', r⟩ := hnew.get hv
             refine ⟨v', ?_, r⟩
             have hjl : j - old.length < new'.length := by
              rcases Nat.lt_or_ge (j - old.length) new'.length with hh | hh
              ·exact hh
              ·rw [List.getElem?_eq_none hh] at e'; simp at e'
             have := hn1 (j - old.length) hjl
             rw [← e', ← this, hao.2.1]
             congr 1; omega)
           refine ⟨Γ', w₁, pure (.slice (some a') (len + k) cap'), hstep, ?_, SimAt.ok hS' rfl (.slice _ _ _ _ _ (.inl ⟨rfl, (ha.spot' (by unfold capInf at hinf'; omega)), a'.off, hbn, by simp⟩) ?_)⟩
           ·rw [append_room ty hd hdx hni hi hlenof hrun0 hroom]
            simp [hst]
           ·unfold Emb.cap
            rw [if_pos (by omega)]
            refine ⟨hroom, N, hstep.le.siz _ _ hN, ?_⟩
            rw [Nat.add_sub_cancel_left]
            rw [hcs, Nat.add_sub_cancel_left] at hroomN
            exact hroomN
          exact hr0 lim rd wr av s' hr hfr
        ·obtain ⟨old', hold', hrold⟩ := readSlice_sim (P := P) hS.drew hB ha rfl hold
         refine aGrow_sim hSk hold' hnew2 (el := e) fun h1 h2 h3 => ?_
         exact append_grow ty hd hdx hni hi hz hlenof hrund hrold hroom h1 h2
       ·exact SimAt.fail
      ·exact SimAt.fail
   ·exact SimAt.fail
  | false =>
   have hinf' : ¬ capInf ≤ cap := fun hle => by rw [Nat.ble_eq_true_of_le hle] at hinf; exact Bool.noConfusion hinf
   simp only [cond_false]
   have hcapeq : cap' = cap := by
    cases hs with
    | nilslice => rfl
    | slice a a' _ _ _ ha hc => unfold Emb.cap at hc; rw [if_neg hinf'] at hc; exact hc
   cases hroomb : Nat.ble (len + k) cap with
   | true =>
    have hroom := Nat.le_of_ble_eq_true hroomb
    simp only [cond_true]
    split
    ·rename_i a
     cases hs with
     | slice _ a' _ _ _ ha0 hcap =>
      rcases Nat.eq_zero_or_pos cap with hcz | hcz
      ·obtain rfl : k = 0 := by omega
       obtain rfl : len = 0 := by omega
       have := hf.nil
       subst this
       simp [hcz] at hc0
      have ha := ha0.exact (.inr ⟨hinf', hcz⟩)
      refine SimAt.get fun B hB => ?_
      split
      ·rename_i c
       split
       ·rename_i c' hc'
        obtain ⟨w', hr, hS'⟩ := storeCells_sim (P := P) (i := a.block) (a := aAdd a (len * i.size)) (a' := a'.add (len * i.size)) rfl new new' c c' 0 h w (ha.add _) hS hB hnew (by simpa [aAdd] using hc')
        refine SimAt.set (w' := w') (e' := pure (.slice (some a') (len + k) cap')) ?_ (SimAt.ok hS' rfl (.slice _ _ _ _ _ (.inl ha) ?_))
        ·rw [append_room ty hd hdx hni hi hlenof hrun0 (by omega)]
         simp [hr]
        ·unfold Emb.cap at hcap ⊢; rw [if_neg hinf'] at hcap ⊢; exact hcap
       ·exact SimAt.fail
      ·exact SimAt.fail
    ·exact SimAt.fail
   | false =>
    have hroom : ¬ len + k ≤ cap' := fun hle => by rw [hcapeq] at hle; rw [Nat.ble_eq_true_of_le hle] at hroomb; exact Bool.noConfusion hroomb
    simp only [cond_false]
    refine first_bind fun k' old hfo => ?_
    obtain ⟨old', hold', hrold, hlo⟩ := hfo.run (P := P) hS.drew hs
    have hk' : k' = len := by
     have := hlo w
     have e2 : (Builtin.lenOf (.slice base' len cap')).run P w = .ok len w := rfl
     rw [e2] at this
     simpa using this.symm
    subst hk'
    refine aGrow_sim hS hold' hnew2 (el := e) fun h1 h2 h3 => ?_
    exact append_grow ty hd hdx hni hi hz hlenof hrund hrold hroom h1 h2
theorem aAppend_sim {ts : Array TypeId} {ty : TypeId} {args args' : List Value} (ha : VRels Γ args args') : Sim P Γ (aAppend P ts.toList args) (Builtin.append_ ts ty ⟨args'⟩) VRel := by
 intro W h n w hS
 unfold aAppend
 split
 ·rename_i t tx s x hts
  obtain ⟨tl⟩ := ts
  obtain rfl : tl = [t, tx] := hts
  cases ha with
  | cons _ s' _ _ hs ha =>
   cases ha with
   | cons _ x' _ _ hx ha =>
    cases ha
    split
    ·rename_i e kx hd hdx
     cases hs
     split
     ·rename_i i z k m hi hz
      cases hx
      obtain ⟨hzr, hzf⟩ := zeroOf_spec hz
      cases hc : (Nat.blt 0 m && Nat.blt 0 i.size) with
      | false => exact SimAt.fail
      | true =>
       simp only [Bool.and_eq_true] at hc
       simp only [cond_true]
       refine aGrow_sim hS .nil ((hzf Γ).cells.rep m) (el := e) fun h1 h2 h3 => ?_
       exact append_zero ty hd hdx hi hzr (Nat.blt_eq.mp hc.1) (Nat.blt_eq.mp hc.2) h1 h2 h3
     ·exact SimAt.fail
    ·exact SimAt.fail
    ·rename_i e dx base len cap hni1 hni hd hdx
     split
     ·rename_i i z hi hz
      obtain ⟨hzr, _⟩ := zeroOf_spec hz
      refine first_bind fun k new hf => ?_
      have hni' : ∀ k, dx ≠ .int k := fun k e => hni k e
      cases hs with
      | nilslice => exact aAppendTo_sim hS ty hd hdx hni' hi hzr (.nilslice _ _) hx hf
      | slice a a' _ _ _ haa hc => exact aAppendTo_sim hS ty hd hdx hni' hi hzr (.slice _ _ _ _ _ haa hc) hx hf
     ·exact SimAt.fail
    ·exact SimAt.fail
 ·exact SimAt.fail
end
end Go.Am
