/-
  A part of the proof: contracts of inner functions.
-/
import Derived.Test.YtapcgfakefmemaaTVM
import Derived.Test.YtapcgfakefmemaaTXC
set_option linter.unusedVariables false
set_option linter.unusedSimpArgs false
namespace Go.Proofs.Ytapcgfakefmemaa
open Go.Am
structure One (l : LayV) (n sz : Nat) : Prop where
  num : NumL l 1 sz
  H : l.H = List.replicate n 1
theorem adr_ones : ∀ (n : Nat) (b : Int) (i : Nat), i < n → (adr b (List.replicate n 1)).getD i 0 = b + 6 * i
  | n + 1, b, 0, _ => by simp [List.replicate_succ, adr]
  | n + 1, b, i + 1, h => by
    rw [List.replicate_succ, adr, List.getD_cons_succ, adr_ones n _ i (by omega)]
    omega
theorem adrEnd_ones : ∀ (n : Nat) (b : Int), adrEnd b (List.replicate n 1) = b + 6 * n
  | 0, b => by simp [adrEnd]
  | n + 1, b => by
    rw [List.replicate_succ, adrEnd, adrEnd_ones n]
    omega
section
variable {l : LayV} {n sz : Nat} (O : One l n sz)
include O
theorem One.len : l.H.length = n := by rw [O.H, List.length_replicate]
theorem One.n1 : n ≤ 1024 := by have := O.num.ini.len; rw [O.len] at this; exact this
theorem One.T {i : Nat} (h : i < n) : l.T.getD i 0 = l.P.getD 8 0 + 6 * i := by rw [O.num.T, O.H]; exact adr_ones n _ i h
theorem One.end : (sz : Int) = l.P.getD 8 0 + 6 * n := by rw [← O.num.pend, O.H]; exact adrEnd_ones n _
theorem One.p8 : l.P.getD 8 0 = l.P.getD 7 0 + 7 := by have := O.num.p8; omega
theorem One.p7 : 12 ≤ l.P.getD 7 0 ∧ l.P.getD 7 0 ≤ 2000 := O.num.p7
theorem One.wrd {j : Nat} {w : Int} (h : j < n) (h0 : 0 ≤ w) (h4 : w ≤ 4) : wrdA l ((j : Int) + 1) w = l.P.getD 8 0 + 6 * j + w ∧ wrdE l ((j : Int) + 1) w = 0 := by
  have hn := O.n1
  have hl := O.len
  have p7 := O.p7
  have p8 := O.p8
  unfold wrdA wrdE
  rw [if_pos ⟨by omega, by omega⟩, if_pos ⟨by omega, by omega⟩, show ((j : Int) + 1 - 1).toNat = j by omega, O.T h, wrap_i64 (by omega) (by omega)]
  exact ⟨rfl, rfl⟩
theorem One.hgt {j : Nat} (h : j < n) : hgtA l.H ((j : Int) + 1) = 1 := by
  have hl := O.len
  rw [(hgt_in (l := l) (n := (j : Int) + 1) (by omega)).1, show ((j : Int) + 1 - 1).toNat = j by omega, O.H]
  simp [List.getD, List.getElem?_replicate, h]
theorem One.nxt {j : Nat} (h : j < n) : nxtA l ((j : Int) + 1) 0 = l.P.getD 8 0 + 6 * j + 5 ∧ nxtE l ((j : Int) + 1) 0 = 0 := by
  have hn := O.n1
  have hl := O.len
  have p7 := O.p7
  have p8 := O.p8
  have h1 : ¬ (isHead l ((j : Int) + 1) ∧ (0 ≤ (0 : Int) ∧ (0 : Int) ≤ 5)) := fun q => by have := q.1.1; omega
  have hH : l.H.getD j 0 = 1 := by
    rw [O.H]
    simp [List.getD, List.getElem?_replicate, h]
  have h2 : nxtH l ((j : Int) + 1) 0 := by
    refine ⟨by omega, by omega, ?_⟩
    rw [show ((j : Int) + 1 - 1).toNat = j by omega, hH, wrap_i64 (by omega) (by omega)]
    omega
  unfold nxtA nxtE
  rw [if_neg h1, if_pos h2, if_neg h1, if_pos h2, show ((j : Int) + 1 - 1).toNat = j by omega, O.T h, wrap_i64 (x := l.P.getD 8 0 + 6 * j + 5) (by omega) (by omega), wrap_i64 (by omega) (by omega)]
  exact ⟨by omega, rfl⟩
theorem One.hd : nxtA l (-1) 0 = l.P.getD 7 0 + 1 ∧ nxtE l (-1) 0 = 0 := by
  have a := nxtA_head O.num (v := 0) (lv := 0) (by omega) (by omega) (by omega) (by omega)
  have b := head_next O.num (v := 0) (lv := 0) (by omega) (by omega) (by omega) (by omega)
  simp only [Int.sub_zero] at a b
  exact ⟨by omega, b⟩
end
theorem wat_set {W : List Int} {a : Nat} {x b : Int} (h : a < W.length) : wat (W.set a x) b = if b = a then x else wat W b := by
  unfold wat
  rw [List.length_set]
  by_cases hb : 0 ≤ b ∧ b < W.length
  · rw [if_pos hb, if_pos hb]
    by_cases e : b = a
    · rw [if_pos e, show b.toNat = a by omega]
      simp [List.getD, h]
    · rw [if_neg e]
      have : a ≠ b.toNat := by omega
      simp only [List.getD, List.getElem?_set, this, if_false]
  · rw [if_neg hb, if_neg hb, if_neg (by omega)]
theorem u64_set {W : List Int} {a : Nat} {x : Int} (h : ∀ y ∈ W, 0 ≤ y ∧ y < 18446744073709551616) (hx : 0 ≤ x ∧ x < 18446744073709551616) : ∀ y ∈ W.set a x, 0 ≤ y ∧ y < 18446744073709551616 := fun y hy => by
  rcases List.mem_or_eq_of_mem_set hy with q | rfl
  · exact h y q
  · exact hx
abbrev CellT := Int × Int × Int × Int × Int
def CellOk (c : CellT) : Prop := U64 c.1 ∧ U64 c.2.1 ∧ (0 ≤ c.2.2.1 ∧ c.2.2.1 < 256) ∧ (0 ≤ c.2.2.2.1 ∧ c.2.2.2.1 < 256) ∧ (0 ≤ c.2.2.2.2 ∧ c.2.2.2.2 < 256)
def CellT.st (c : CellT) : Int := stOf c.2.2.1 c.2.2.2.1 c.2.2.2.2
def cel (C : List CellT) (j : Nat) : CellT := C.getD j (0, 0, 0, 0, 0)
structure Laid (l : LayV) (W : List Int) (C : List CellT) (n sz i : Nat) : Prop where
  len : W.length = sz
  u64 : ∀ y ∈ W, 0 ≤ y ∧ y < 18446744073709551616
  w0 : ∀ j, j < i → wat W (l.P.getD 8 0 + 6 * (j : Nat)) = 10 * ((j : Int) + 1)
  w1 : ∀ j, j < i → wat W (l.P.getD 8 0 + 6 * (j : Nat) + 1) = (cel C j).1
  w2 : ∀ j, j < i → wat W (l.P.getD 8 0 + 6 * (j : Nat) + 2) = (cel C j).2.1
  w4 : ∀ j, j < i → wat W (l.P.getD 8 0 + 6 * (j : Nat) + 4) = (cel C j).st
  nx : ∀ j, j < n → wat W (l.P.getD 8 0 + 6 * (j : Nat) + 5) = if j + 1 < i then (j : Int) + 2 else 0
  hd : wat W (l.P.getD 7 0 + 1) = if 0 < i then 1 else 0
  ds : ∀ a, l.P.getD 4 0 ≤ a → a < l.P.getD 5 0 → wat W a = 0
theorem laid_zero {l : LayV} {n sz : Nat} (O : One l n sz) (h4 : 0 ≤ l.P.getD 4 0) (C : List CellT) : Laid l (iniW l) C n sz 0 := by
  have h8 := O.p8
  have h6 := O.num.ini.p6
  have h9 := O.num.p9
  refine ⟨?_, iniL_u64 O.num.ini.len, fun j h => by omega, fun j h => by omega, fun j h => by omega, fun j h => by omega, fun j h => ?_, ?_, fun a h1 h2 => ?_⟩
  · unfold iniW; rw [iniL_length]; omega
  · rw [iniW_high O.num (by omega)]; simp
  · rw [iniW_high O.num (by omega)]; simp
  · have hlen : (iniW l).length = (l.P.getD 9 0).toNat := iniL_length _ _ _ _ _
    unfold wat
    split
    · rename_i hc
      unfold iniW iniL
      rw [map_range_getD (by omega)]
      unfold iniAt
      rw [if_neg (by omega), if_neg (by omega)]
    · rfl
def befA (l : LayV) (i : Nat) : Int := if i = 0 then l.P.getD 7 0 + 1 else l.P.getD 8 0 + 6 * ((i : Int) - 1) + 5
theorem laid_step {l : LayV} {n sz i : Nat} (O : One l n sz) (h45 : l.P.getD 4 0 ≤ l.P.getD 5 0) {C : List CellT} (hC : CellOk (cel C i)) {W : List Int} (L : Laid l W C n sz i) (hi : i < n) {a0 a1 a2 a4 ab : Nat} (e0 : l.P.getD 8 0 + 6 * (i : Nat) = a0) (e1 : l.P.getD 8 0 + 6 * (i : Nat) + 1 = a1) (e2 : l.P.getD 8 0 + 6 * (i : Nat) + 2 = a2) (e4 : l.P.getD 8 0 + 6 * (i : Nat) + 4 = a4) (eb : befA l i = ab) :
    Laid l (((((W.set a0 (10 * ((i : Int) + 1))).set a1 (cel C i).1).set a4 (cel C i).st).set a2 (cel C i).2.1).set ab ((i : Int) + 1)) C n sz (i + 1) := by
  have h8 := O.p8
  have h7 := O.p7
  have hend := O.end
  have hn := O.n1
  have h6 := O.num.ini.p6
  have h7' := O.num.p7'
  have hst := stOf_facts hC.2.2.1.1 hC.2.2.2.1.1 hC.2.2.2.2.1
  unfold befA at eb
  have hb : (i = 0 ∧ (ab : Int) = l.P.getD 7 0 + 1) ∨ (0 < i ∧ (ab : Int) = l.P.getD 8 0 + 6 * ((i : Int) - 1) + 5) := by
    by_cases q : i = 0
    · rw [if_pos q] at eb; exact .inl ⟨q, eb.symm⟩
    · rw [if_neg q] at eb; exact .inr ⟨by omega, eb.symm⟩
  have key : ∀ b, wat (((((W.set a0 (10 * ((i : Int) + 1))).set a1 (cel C i).1).set a4 (cel C i).st).set a2 (cel C i).2.1).set ab ((i : Int) + 1)) b = if b = ab then (i : Int) + 1 else if b = a2 then (cel C i).2.1 else if b = a4 then (cel C i).st else if b = a1 then (cel C i).1 else if b = a0 then 10 * ((i : Int) + 1) else wat W b := fun b => by
    have := L.len
    rw [wat_set (by simp only [List.length_set]; omega), wat_set (by simp only [List.length_set]; omega), wat_set (by simp only [List.length_set]; omega), wat_set (by simp only [List.length_set]; omega), wat_set (by omega)]
  have tail : ∀ j, j < i + 1 → j < i ∨ j = i := fun j h => by omega
  refine ⟨by simp only [List.length_set]; exact L.len, u64_set (u64_set (u64_set (u64_set (u64_set L.u64 (by omega)) hC.1) hst.1) hC.2.1) (by omega), fun j h => ?_, fun j h => ?_, fun j h => ?_, fun j h => ?_, fun j h => ?_, ?_, fun a h1 h2 => ?_⟩
  · rw [key]
    rcases tail j h with h' | rfl
    · rw [if_neg (by omega), if_neg (by omega), if_neg (by omega), if_neg (by omega), if_neg (by omega)]; exact L.w0 j h'
    · rw [if_neg (by omega), if_neg (by omega), if_neg (by omega), if_neg (by omega), if_pos (by omega)]
  · rw [key]
    rcases tail j h with h' | rfl
    · rw [if_neg (by omega), if_neg (by omega), if_neg (by omega), if_neg (by omega), if_neg (by omega)]; exact L.w1 j h'
    · rw [if_neg (by omega), if_neg (by omega), if_neg (by omega), if_pos (by omega)]
  · rw [key]
    rcases tail j h with h' | rfl
    · rw [if_neg (by omega), if_neg (by omega), if_neg (by omega), if_neg (by omega), if_neg (by omega)]; exact L.w2 j h'
    · rw [if_neg (by omega), if_pos (by omega)]
  · rw [key]
    rcases tail j h with h' | rfl
    · rw [if_neg (by omega), if_neg (by omega), if_neg (by omega), if_neg (by omega), if_neg (by omega)]; exact L.w4 j h'
    · rw [if_neg (by omega), if_neg (by omega), if_pos (by omega)]
  · rw [key]
    by_cases q : (l.P.getD 8 0 + 6 * (j : Int) + 5) = ab
    · rw [if_pos q]
      have : j + 1 = i := by omega
      rw [if_pos (by omega)]
      omega
    · rw [if_neg q, if_neg (by omega), if_neg (by omega), if_neg (by omega), if_neg (by omega), L.nx j h]
      by_cases c : j + 1 < i
      · rw [if_pos c, if_pos (by omega)]
      · rw [if_neg c]
        by_cases c2 : j + 1 = i
        · exfalso; omega
        · rw [if_neg (by omega)]
  · rw [key]
    rcases hb with ⟨q, e⟩ | ⟨q, e⟩
    · rw [if_pos (by omega), if_pos (by omega)]; omega
    · rw [if_neg (by omega), if_neg (by omega), if_neg (by omega), if_neg (by omega), if_neg (by omega), L.hd, if_pos q, if_pos (by omega)]
  · rw [key, if_neg (by omega), if_neg (by omega), if_neg (by omega), if_neg (by omega), if_neg (by omega)]
    exact L.ds a h1 h2
end Go.Proofs.Ytapcgfakefmemaa
set_option linter.unusedVariables false
set_option linter.unusedSimpArgs false
namespace Go.Proofs.Ytapcgfakefmemaa
open Go.Am
structure Full (l : LayV) (W : List Int) (C : List CellT) (m : Nat) (d0 d1 : Int) : Prop where
  w0 : ∀ j, j < m → wd l W ((j : Int) + 1) 0 = 10 * ((j : Int) + 1)
  w1 : ∀ j, j < m → wd l W ((j : Int) + 1) 1 = (cel C j).1
  w2 : ∀ j, j < m → wd l W ((j : Int) + 1) 2 = (cel C j).2.1
  w4 : ∀ j, j < m → wd l W ((j : Int) + 1) 4 = (cel C j).st
  nx : ∀ j, j < m → aft l W ((j : Int) + 1) 0 = if j + 1 < m then (j : Int) + 2 else 0
  hd : aft l W (-1) 0 = if 0 < m then 1 else 0
  d0 : wat W (l.P.getD 4 0) = d0
  d1 : wat W (l.P.getD 4 0 + 1) = d1
theorem laid_full {l : LayV} {n sz : Nat} (O : One l n sz) (h45 : l.P.getD 4 0 + 2 ≤ l.P.getD 5 0) {W : List Int} {C : List CellT} (L : Laid l W C n sz n) : Full l W C n 0 0 := by
  have hn := O.n1
  have hl := O.len
  refine ⟨fun j h => ?_, fun j h => ?_, fun j h => ?_, fun j h => ?_, fun j h => ?_, ?_, L.ds _ (by omega) (by omega), L.ds _ (by omega) (by omega)⟩
  · unfold wd; rw [(O.wrd h (by omega) (by omega)).1, Int.add_zero]; exact L.w0 j h
  · unfold wd; rw [(O.wrd h (by omega) (by omega)).1]; exact L.w1 j h
  · unfold wd; rw [(O.wrd h (by omega) (by omega)).1]; exact L.w2 j h
  · unfold wd; rw [(O.wrd h (by omega) (by omega)).1]; exact L.w4 j h
  · unfold aft
    rw [if_pos (O.nxt h).2, (O.nxt h).1, L.nx j h]
    by_cases c : j + 1 < n
    · rw [if_pos c, if_pos (by omega)]
    · rw [if_neg c, if_pos (by omega)]
  · unfold aft
    rw [if_pos O.hd.2, O.hd.1, L.hd]
    by_cases c : 0 < n
    · rw [if_pos c, if_pos (by omega)]
    · rw [if_neg c, if_pos (by omega)]
theorem laid_cut {l : LayV} {m sz : Nat} (O : One l (m + 1) sz) (h45 : l.P.getD 4 0 + 2 ≤ l.P.getD 5 0) {W : List Int} {C : List CellT} (L : Laid l W C (m + 1) sz (m + 1)) {ab : Nat} (eb : befA l m = ab) : Full l (W.set ab 0) C m 0 0 := by
  have hn := O.n1
  have hl := O.len
  have h8 := O.p8
  have h7 := O.p7
  have hend := O.end
  have h7' := O.num.p7'
  have h6 := O.num.ini.p6
  have hlen := L.len
  unfold befA at eb
  have hb : (m = 0 ∧ (ab : Int) = l.P.getD 7 0 + 1) ∨ (0 < m ∧ (ab : Int) = l.P.getD 8 0 + 6 * ((m : Int) - 1) + 5) := by
    by_cases q : m = 0
    · rw [if_pos q] at eb; exact .inl ⟨q, eb.symm⟩
    · rw [if_neg q] at eb; exact .inr ⟨by omega, eb.symm⟩
  have key : ∀ b, wat (W.set ab 0) b = if b = ab then 0 else wat W b := fun b => wat_set (by omega)
  refine ⟨fun j h => ?_, fun j h => ?_, fun j h => ?_, fun j h => ?_, fun j h => ?_, ?_, ?_, ?_⟩
  · unfold wd; rw [(O.wrd (show j < m + 1 by omega) (by omega) (by omega)).1, Int.add_zero, key, if_neg (by omega)]; exact L.w0 j (by omega)
  · unfold wd; rw [(O.wrd (show j < m + 1 by omega) (by omega) (by omega)).1, key, if_neg (by omega)]; exact L.w1 j (by omega)
  · unfold wd; rw [(O.wrd (show j < m + 1 by omega) (by omega) (by omega)).1, key, if_neg (by omega)]; exact L.w2 j (by omega)
  · unfold wd; rw [(O.wrd (show j < m + 1 by omega) (by omega) (by omega)).1, key, if_neg (by omega)]; exact L.w4 j (by omega)
  · unfold aft
    rw [if_pos (O.nxt (show j < m + 1 by omega)).2, (O.nxt (show j < m + 1 by omega)).1]
    by_cases c : j + 1 < m
    · have q : wat (W.set ab 0) (l.P.getD 8 0 + 6 * (j : Int) + 5) = (j : Int) + 2 := by rw [key, if_neg (by omega), L.nx j (by omega), if_pos (by omega)]
      rw [q, if_pos (by omega), if_pos c]
    · have q : wat (W.set ab 0) (l.P.getD 8 0 + 6 * (j : Int) + 5) = 0 := by rw [key, if_pos (by omega)]
      rw [q, if_neg c, if_pos (by omega)]
  · unfold aft
    rw [if_pos O.hd.2, O.hd.1]
    by_cases c : 0 < m
    · have q : wat (W.set ab 0) (l.P.getD 7 0 + 1) = 1 := by rw [key, if_neg (by omega), L.hd, if_pos (by omega)]
      rw [q, if_pos (by omega), if_pos c]
    · have q : wat (W.set ab 0) (l.P.getD 7 0 + 1) = 0 := by rw [key, if_pos (by omega)]
      rw [q, if_neg c, if_pos (by omega)]
  · rw [key, if_neg (by omega)]; exact L.ds _ (by omega) (by omega)
  · rw [key, if_neg (by omega)]; exact L.ds _ (by omega) (by omega)
theorem Full.move {l : LayV} {n sz m : Nat} (O : One l n sz) (hm : m ≤ n) {W W' : List Int} {C : List CellT} {d0 d1 e0 e1 : Int} (F : Full l W C m d0 d1) (hw : ∀ b, l.P.getD 7 0 ≤ b → b < l.P.getD 8 0 + 6 * (m : Int) → wat W' b = wat W b) (h0 : wat W' (l.P.getD 4 0) = e0) (h1 : wat W' (l.P.getD 4 0 + 1) = e1) : Full l W' C m e0 e1 := by
  have h8 := O.p8
  refine ⟨fun j h => ?_, fun j h => ?_, fun j h => ?_, fun j h => ?_, fun j h => ?_, ?_, h0, h1⟩
  · rw [← F.w0 j h]; unfold wd; exact hw _ (by rw [(O.wrd (show j < n by omega) (by omega) (by omega)).1]; omega) (by rw [(O.wrd (show j < n by omega) (by omega) (by omega)).1]; omega)
  · rw [← F.w1 j h]; unfold wd; exact hw _ (by rw [(O.wrd (show j < n by omega) (by omega) (by omega)).1]; omega) (by rw [(O.wrd (show j < n by omega) (by omega) (by omega)).1]; omega)
  · rw [← F.w2 j h]; unfold wd; exact hw _ (by rw [(O.wrd (show j < n by omega) (by omega) (by omega)).1]; omega) (by rw [(O.wrd (show j < n by omega) (by omega) (by omega)).1]; omega)
  · rw [← F.w4 j h]; unfold wd; exact hw _ (by rw [(O.wrd (show j < n by omega) (by omega) (by omega)).1]; omega) (by rw [(O.wrd (show j < n by omega) (by omega) (by omega)).1]; omega)
  · rw [← F.nx j h]
    unfold aft
    rw [hw _ (by rw [(O.nxt (show j < n by omega)).1]; omega) (by rw [(O.nxt (show j < n by omega)).1]; omega)]
  · rw [← F.hd]
    unfold aft
    rw [hw _ (by rw [O.hd.1]; omega) (by rw [O.hd.1]; omega)]
theorem chain_ones {l : LayV} {n sz m : Nat} (O : One l n sz) (hm : m ≤ n) {W : List Int} {C : List CellT} {d0 d1 : Int} (F : Full l W C m d0 d1) : ∀ (k i f : Nat) (S : List Bool), i + k = m → k ≤ f → (∀ j, i < j → j ≤ m → S[j]? = some false) → chain l W 0 f S (if 0 < k then (i : Int) + 1 else 0) = (List.range k).map fun j => ((i + j : Nat) : Int) + 1
  | 0, i, f, S, _, _, _ => by
    cases f with
    | zero => rfl
    | succ f => rw [chain, if_neg (by simp)]; rfl
  | k + 1, i, 0, S, _, h, _ => by omega
  | k + 1, i, f + 1, S, h, hf, hS => by
    have hS1 : S.getD ((i : Int) + 1).toNat true = false := by
      rw [show ((i : Int) + 1).toNat = i + 1 by omega]
      simp [List.getD, hS (i + 1) (by omega) (by omega)]
    have hh := O.hgt (show i < n by omega)
    have ih := chain_ones O hm F k (i + 1) f (S.set (i + 1) true) (by omega) (by omega) fun j h1 h2 => by
      rw [List.getElem?_set_ne (by omega)]
      exact hS j (by omega) h2
    rw [if_pos (by omega), chain, if_pos ⟨by omega, hS1, by omega⟩, F.nx i (by omega), show ((i : Int) + 1).toNat = i + 1 by omega]
    have e : (if i + 1 < m then (i : Int) + 2 else 0) = if 0 < k then ((i + 1 : Nat) : Int) + 1 else 0 := by
      by_cases c : 0 < k
      · rw [if_pos c, if_pos (by omega)]; omega
      · rw [if_neg c, if_neg (by omega)]
    rw [e, ih, List.range_succ_eq_map, List.map_cons, List.map_map]
    congr 1
    refine List.map_congr_left fun j _ => ?_
    show ((i + 1 + j : Nat) : Int) + 1 = ((i + (j + 1) : Nat) : Int) + 1
    omega
theorem lst_ones {l : LayV} {n sz m : Nat} (O : One l n sz) (hm : m ≤ n) {W : List Int} {C : List CellT} {d0 d1 : Int} (F : Full l W C m d0 d1) : lst l W 0 0 = (List.range m).map fun j : Nat => (j : Int) + 1 := by
  have hl := O.len
  have h := chain_ones O hm F m 0 (l.H.length + 1) (List.replicate (l.H.length + 1) false) (by omega) (by omega) fun j h1 h2 => by rw [List.getElem?_replicate, if_pos (by omega)]
  unfold lst
  rw [show (-1 - 0 : Int) = -1 by omega, F.hd]
  have e : (if 0 < m then ((0 : Nat) : Int) + 1 else 0) = if 0 < m then (1 : Int) else 0 := by
    by_cases c : 0 < m
    · rw [if_pos c, if_pos c]; rfl
    · rw [if_neg c, if_neg c]
  rw [e] at h
  rw [h]
  refine List.map_congr_left fun j _ => ?_
  rw [Nat.zero_add]
def aftC (g0 g1 : Int) (b0 b1 : Bool) (c : CellT) : Bool := (if c.2.2.2.1.tmod 2 = 0 then b0 else b1) || decide ((if c.2.2.2.1.tmod 2 = 0 then g0 else g1).tmod 3 ≠ c.2.2.2.2.tmod 3)
def isC (g0 g1 : Int) (b0 b1 : Bool) (c : CellT) : Bool := if c.2.2.1.tmod 6 = 1 then true else if c.2.2.1.tmod 6 = 3 then aftC g0 g1 b0 b1 c else if c.2.2.1.tmod 6 = 4 then !aftC g0 g1 b0 b1 c else decide (c.2.2.1.tmod 6 = 5)
def valC (g0 g1 : Int) (b0 b1 : Bool) (c : CellT) : Int := if c.2.2.1.tmod 6 = 5 ∧ aftC g0 g1 b0 b1 c = true then c.2.1 else c.1
def showC (g0 g1 : Int) (b0 b1 : Bool) (j : Nat) (c : CellT) : List (Int × Int) := if isC g0 g1 b0 b1 c = true then [(10 * ((j : Int) + 1), valC g0 g1 b0 b1 c)] else []
def showL (g0 g1 : Int) (b0 b1 : Bool) (C : List CellT) : Nat → List (Int × Int)
  | 0 => []
  | j + 1 => showL g0 g1 b0 b1 C j ++ showC g0 g1 b0 b1 j (cel C j)
theorem showL_key (g0 g1 : Int) (b0 b1 : Bool) (C : List CellT) : ∀ m i, i < (showL g0 g1 b0 b1 C m).length → key (showL g0 g1 b0 b1 C m) i ≤ 10 * m
  | 0, i, h => by simp [showL] at h
  | m + 1, i, h => by
    rw [showL] at h ⊢
    rw [List.length_append] at h
    unfold key
    rcases Nat.lt_or_ge i (showL g0 g1 b0 b1 C m).length with q | q
    · have := showL_key g0 g1 b0 b1 C m i q
      unfold key at this
      simp only [List.getD, List.getElem?_append_left q] at this ⊢
      omega
    · unfold showC at h ⊢
      split at h
      · rename_i c
        simp only [List.length_singleton] at h
        rw [if_pos c]
        simp only [List.getD, List.getElem?_append_right q, show i - (showL g0 g1 b0 b1 C m).length = 0 by omega, List.getElem?_cons_zero, Option.getD_some]
        omega
      · simp only [List.length_nil] at h; omega
theorem showL_inc (g0 g1 : Int) (b0 b1 : Bool) (C : List CellT) : ∀ m, IncP (showL g0 g1 b0 b1 C m)
  | 0 => fun i j _ h => by simp [showL] at h
  | m + 1 => fun i j hij hj => by
    rw [showL] at hj ⊢
    rw [List.length_append] at hj
    have hk := showL_key g0 g1 b0 b1 C m
    have ih := showL_inc g0 g1 b0 b1 C m
    unfold showC at hj ⊢
    split at hj
    · rename_i c
      simp only [List.length_singleton] at hj
      rw [if_pos c]
      rcases Nat.lt_or_ge j (showL g0 g1 b0 b1 C m).length with q | q
      · have := ih i j hij q
        unfold key at this ⊢
        simp only [List.getD, List.getElem?_append_left q, List.getElem?_append_left (show i < (showL g0 g1 b0 b1 C m).length by omega)] at this ⊢
        exact this
      · have := hk i (by omega)
        unfold key at this ⊢
        simp only [List.getD, List.getElem?_append_right q, List.getElem?_append_left (show i < (showL g0 g1 b0 b1 C m).length by omega), show j - (showL g0 g1 b0 b1 C m).length = 0 by omega, List.getElem?_cons_zero, Option.getD_some] at this ⊢
        omega
    · rename_i c
      rw [if_neg c, List.append_nil]
      simp only [List.length_nil] at hj
      exact ih i j hij (by omega)
theorem showL_length (g0 g1 : Int) (b0 b1 : Bool) (C : List CellT) : ∀ m, (showL g0 g1 b0 b1 C m).length ≤ m
  | 0 => by simp [showL]
  | m + 1 => by
    have := showL_length g0 g1 b0 b1 C m
    rw [showL, List.length_append]
    unfold showC
    split <;> simp only [List.length_singleton, List.length_nil] <;> omega
def dsc (g : Int) (b : Bool) : Int := 2 * g + (if b = true then 1 else 0)
theorem dsc_facts {g : Int} {b : Bool} (h : 0 ≤ g ∧ g ≤ 2) : (dsc g b).tdiv 2 = g ∧ decide ((dsc g b).tmod 2 = 1) = b ∧ 0 ≤ dsc g b ∧ dsc g b ≤ 5 := by
  unfold dsc
  cases b
  · rw [if_neg (by simp), Int.tdiv_eq_ediv_of_nonneg (by omega), Int.tmod_eq_emod_of_nonneg (by omega)]
    refine ⟨by omega, decide_eq_false (by omega), by omega, by omega⟩
  · rw [if_pos rfl, Int.tdiv_eq_ediv_of_nonneg (by omega), Int.tmod_eq_emod_of_nonneg (by omega)]
    refine ⟨by omega, decide_eq_true (by omega), by omega, by omega⟩
theorem prOf_cell {l : LayV} {W : List Int} {C : List CellT} {m : Nat} {g0 g1 : Int} {b0 b1 : Bool} (F : Full l W C m (dsc g0 b0) (dsc g1 b1)) (h0 : 0 ≤ g0 ∧ g0 ≤ 2) (h1 : 0 ≤ g1 ∧ g1 ≤ 2) {j : Nat} (hj : j < m) (hC : CellOk (cel C j)) :
    prOf l W 2 ((j : Int) + 1) = if isC g0 g1 b0 b1 (cel C j) = true then some (10 * ((j : Int) + 1), valC g0 g1 b0 b1 (cel C j)) else none := by
  unfold prOf
  rw [F.w0 j hj, F.w1 j hj, F.w2 j hj, F.w4 j hj]
  have D0 := F.d0
  have D1 := F.d1
  clear F
  generalize cel C j = c at *
  obtain ⟨v, a, k, e, g⟩ := c
  obtain ⟨c1, c2, ⟨c3, c3'⟩, ⟨c4, c4'⟩, ⟨c5, c5'⟩⟩ := hC
  simp only at c1 c2 c3 c4 c5
  obtain ⟨s1, s2, s3, s4⟩ := stOf_facts c3 c4 c5
  have a1 := tmod_rng c3 (show (0 : Int) < 6 by omega)
  have a2 := tmod_rng c4 (show (0 : Int) < 2 by omega)
  have a3 := tmod_rng c5 (show (0 : Int) < 3 by omega)
  have f0 := dsc_facts (b := b0) h0
  have f1 := dsc_facts (b := b1) h1
  have t0 : g0.tmod 3 = g0 := by rw [Int.tmod_eq_emod_of_nonneg h0.1]; omega
  have t1 : g1.tmod 3 = g1 := by rw [Int.tmod_eq_emod_of_nonneg h1.1]; omega
  unfold pIs pVal pDesc isC valC aftC CellT.st
  simp only
  rw [s2, s3]
  unfold prs alt dcd
  rw [s3]
  generalize stOf k e g = st at *
  generalize k.tmod 6 = K at *
  by_cases q : 2 < K
  · obtain ⟨u1, u2⟩ := s4 q
    rw [if_pos q, u1, u2]
    generalize e.tmod 2 = E at *
    generalize g.tmod 3 = G at *
    have hE : E = 0 ∨ E = 1 := by omega
    have hK : K = 3 ∨ K = 4 ∨ K = 5 := by omega
    have n0 : ¬ (1099511627775 : Int) < g0 := by omega
    have n1 : ¬ (1099511627775 : Int) < g1 := by omega
    have nG : ¬ (1099511627775 : Int) < G := by omega
    have tG : G.tmod 3 = G := by rw [Int.tmod_eq_emod_of_nonneg (by omega)]; omega
    rcases hE with rfl | rfl
    · rw [Int.add_zero, D0, f0.1, f0.2.1]
      clear D0 D1 f0 f1 s1 s2 s4 c1 c2 c3' c4' c5' u1 u2 s3
      rcases hK with rfl | rfl | rfl <;> cases b0 <;> by_cases hg : g0 = G <;> simp [hg, n0, nG, tG, t0]
    · rw [D1, f1.1, f1.2.1]
      clear D0 D1 f0 f1 s1 s2 s4 c1 c2 c3' c4' c5' u1 u2 s3
      rcases hK with rfl | rfl | rfl <;> cases b1 <;> by_cases hg : g1 = G <;> simp [hg, n1, nG, tG, t1]
  · rw [if_neg q]
    have hK : K = 0 ∨ K = 1 ∨ K = 2 := by omega
    rcases hK with rfl | rfl | rfl <;> simp
theorem prs_show {l : LayV} {n sz m : Nat} (O : One l n sz) (hm : m ≤ n) {W : List Int} {C : List CellT} {g0 g1 : Int} {b0 b1 : Bool} (F : Full l W C m (dsc g0 b0) (dsc g1 b1)) (h0 : 0 ≤ g0 ∧ g0 ≤ 2) (h1 : 0 ≤ g1 ∧ g1 ≤ 2) (hC : ∀ j, j < m → CellOk (cel C j)) : pairsTo l W 2 1 = showL g0 g1 b0 b1 C m := by
  have h : ∀ k, k ≤ m → ((List.range k).map fun j : Nat => (j : Int) + 1).filterMap (prOf l W 2) = showL g0 g1 b0 b1 C k := by
    intro k
    induction k with
    | zero => intro _; rfl
    | succ k ih =>
      intro hk
      rw [List.range_succ, List.map_append, List.filterMap_append, ih (by omega), showL]
      congr 1
      rw [List.map_singleton, List.filterMap_cons, prOf_cell F h0 h1 (show k < m by omega) (hC k (by omega)), List.filterMap_nil]
      unfold showC
      by_cases c : isC g0 g1 b0 b1 (cel C k) = true
      · rw [if_pos c, if_pos c]
      · rw [if_neg c, if_neg c]
  show [] ++ prsOf l W 2 0 = _
  unfold prsOf
  rw [List.nil_append, show ((0 : Nat) : Int) = 0 from rfl, lst_ones O hm F]
  exact h m (Nat.le_refl _)
end Go.Proofs.Ytapcgfakefmemaa
set_option linter.unusedVariables false
set_option linter.unusedSimpArgs false
namespace Go.Proofs.Ytapcgfakefmemaa
open Go.Am
def celV (c : CellT) : List Value := [.int .u64 c.1, .int .u64 c.2.1, .int .u8 c.2.2.1, .int .u8 c.2.2.2.1, .int .u8 c.2.2.2.2]
def celL (C : List CellT) : List Value := C.flatMap celV
theorem celL_length : ∀ (C : List CellT), (celL C).length = C.length * 5
  | [] => rfl
  | c :: C => by
    have := celL_length C
    unfold celL at *
    rw [List.flatMap_cons, List.length_append, this]
    simp only [celV, List.length_cons, List.length_nil]; omega
theorem celL_at : ∀ (C : List CellT) (i : Nat), i < C.length → ((celL C).drop (i * 5)).take 5 = celV (cel C i)
  | c :: C, 0, _ => by simp [celL, celV, cel]
  | c :: C, i + 1, h => by
    have e : celL (c :: C) = celV c ++ celL C := by simp [celL]
    rw [e, show (i + 1) * 5 = (celV c).length + i * 5 by simp only [celV, List.length_cons, List.length_nil]; omega, List.drop_append, List.drop_eq_nil_of_le (by omega), List.nil_append, show (celV c).length + i * 5 - (celV c).length = i * 5 by omega, celL_at C i (by simpa using h)]
    simp [cel, List.getD]
theorem celL_get (C : List CellT) (i k : Nat) (h : i < C.length) (hk : k < 5) : (celL C)[i * 5 + k]? = (celV (cel C i))[k]? := by
  rw [← celL_at C i h, List.getElem?_take_of_lt hk, List.getElem?_drop]
def IsCells (h : PT ABlk) (s : Value) (C : List CellT) : Prop := ∃ a cap, s = .slice a C.length cap ∧ ∀ i, i < C.length → ∃ g ro, a = some ⟨g, 0, none⟩ ∧ h.get g = some (.cells (PT.ofList .leaf 0 (celL C)) ro)
theorem IsCells.keep {h h' : PT ABlk} {s : Value} {C : List CellT} (H : IsCells h s C) (k : Kept h h') : IsCells h' s C := by
  obtain ⟨a, cap, e, q⟩ := H
  refine ⟨a, cap, e, fun i hi => ?_⟩
  obtain ⟨g, ro, e1, e2⟩ := q i hi
  exact ⟨g, ro, e1, k _ _ e2⟩
def OutS (lo : Nat) (ps : List (Int × Int)) (s : Value) (h : PT ABlk) : Prop := (s = .slice none 0 0 ∧ ps = []) ∨ ∃ g, s = .slice (some ⟨g, 0, none⟩) ps.length (capInf + 2) ∧ lo ≤ g ∧ 0 < ps.length ∧ h.get g = some (.cells (PT.ofList .leaf 0 (prL ps)) false)
set_option maxRecDepth 100000 in
set_option maxHeartbeats 8000000 in
theorem shownB {O : Over} (g0 g1 : Int) (b0 b1 : Bool) (s : Value) (C : List CellT) (h : PT ABlk) (N : Nat) (hW : WfH h N) (hs : IsCells h s C) (hn : C.length ≤ 40) (hC : ∀ j, j < C.length → CellOk (cel C j)) :
    EvB Try.prog O 26 [s, .agg ⟨[.int .u8 g0, .int .u8 g1]⟩, .agg ⟨[.bool b0, .bool b1]⟩] h N fun v h' n' => IsPrs h' v (showL g0 g1 b0 b1 C C.length) ∧ Kept h h' := by
  obtain ⟨a, cap, rfl, hA⟩ := hs
  have hcl := celL_length C
  refine EvB_run (N := 81) Try.func26 rfl rfl fun z hP hO hro hN hQ => ?_
  repeat' first | simp (maxSteps := 2000000) (disch := first | omega | (repeat first | assumption | exact Kept.refl _ | refine Kept.set' (by assumption) ?_ ?_ | refine Kept.set (by assumption) ?_ ?_ | omega)) only [go_sem, *, Try.results26] | (first | apply xg1 | apply xc1 | apply xg2 | apply xc2 | apply xc3 | apply xc4 | apply xg3 | apply xg4) <;> intro _ | (first | apply xh1 | apply xh2 | apply xh3 | apply xh4) <;> intro _ | refine EvK_draw (id := 6) (L := w26_6) (by kernel_rfl) (by kernel_rfl) ?_
  refine ind_loop (fun t m h' n' => ∃ (i : Nat), i ≤ C.length ∧ t = C.length - i ∧ m.n = 81 ∧ m.dfs = [] ∧ m.get 0 = .slice a C.length cap ∧ m.get 4 = .pointer (some ⟨N, 0, none⟩) ∧ m.get 5 = .pointer (some ⟨N + 1, 0, none⟩) ∧ m.get 8 = .int .i64 i ∧ h'.get N = some (.cells (PT.ofList .leaf 0 [.int .u8 g0, .int .u8 g1]) false) ∧ h'.get (N + 1) = some (.cells (PT.ofList .leaf 0 [.bool b0, .bool b1]) false) ∧
    OutS (N + 2) (showL g0 g1 b0 b1 C i) (m.get 7) h' ∧ Kept h h' ∧ WfH h' n' ∧ N + 2 ≤ n') C.length ?_ ?_
  · refine ⟨0, by omega, by omega, ?_⟩
    simp (maxSteps := 2000000) (disch := first | omega | (repeat first | assumption | exact Kept.refl _ | refine Kept.set' (by assumption) ?_ ?_ | refine Kept.set (by assumption) ?_ ?_ | omega)) only [go_sem, *]
    refine ⟨.inl ⟨rfl, rfl⟩, Kept.set' hW (by omega) (hW.kept (Nat.le_refl _)), WfH.set' (by omega) (WfH.set hW (by omega) (by omega)), Nat.le_refl _⟩
  · rintro t m h' n' ih ⟨i, hi, rfl, m1, m2, m3, m4, m5, m7, q1, q2, hout, q3, q4, q5⟩
    by_cases hlt : i < C.length
    · obtain ⟨g, ro, rfl, hg⟩ := hA i hlt
      have hg' := q3 _ _ hg
      have hgN := hW.lt hg
      have e7 : (i : Int) < C.length := by omega
      have ci : ((i + 1 : Nat) : Int) = (i : Int) + 1 := by omega
      have w1 : IntKind.u64.wrap ((i : Int) + 1) = (i : Int) + 1 := wrap_u64 (by omega) (by omega)
      have w2 : IntKind.u64.wrap (10 * ((i : Int) + 1)) = 10 * ((i : Int) + 1) := wrap_u64 (by omega) (by omega)
      have c0 := celL_get C i 0 hlt (by omega)
      have c1 := celL_get C i 1 hlt (by omega)
      have c2 := celL_get C i 2 hlt (by omega)
      have c3 := celL_get C i 3 hlt (by omega)
      have c4 := celL_get C i 4 hlt (by omega)
      have hCi := hC i hlt
      have hsh : showL g0 g1 b0 b1 C (i + 1) = showL g0 g1 b0 b1 C i ++ showC g0 g1 b0 b1 i (cel C i) := rfl
      have hsl := showL_length g0 g1 b0 b1 C i
      clear hA hC hg
      generalize cel C i = c at *
      obtain ⟨v, al, k, e, gg⟩ := c
      obtain ⟨-, -, ⟨k0, -⟩, ⟨e0, -⟩, ⟨gg0, -⟩⟩ := hCi
      simp only at k0 e0 gg0
      have a1 := tmod_rng k0 (show (0 : Int) < 6 by omega)
      have a2 := tmod_rng e0 (show (0 : Int) < 2 by omega)
      simp only [celV, List.getElem?_cons_zero, List.getElem?_cons_succ] at c0 c1 c2 c3 c4
      rw [Nat.add_zero] at c0
      have hE : e.tmod 2 = 0 ∨ e.tmod 2 = 1 := by omega
      have hK : k.tmod 6 = 1 ∨ k.tmod 6 = 3 ∨ k.tmod 6 = 4 ∨ k.tmod 6 = 5 ∨ (¬ k.tmod 6 = 1 ∧ ¬ k.tmod 6 = 3 ∧ ¬ k.tmod 6 = 4 ∧ ¬ k.tmod 6 = 5) := by omega
      simp only [showC, isC, valC, aftC] at hsh
      obtain ⟨bE, gE, eb, eg, lb, lg⟩ : ∃ bE gE, (if e.tmod 2 = 0 then b0 else b1) = bE ∧ (if e.tmod 2 = 0 then g0 else g1) = gE ∧ ([.bool b0, .bool b1] : List Value)[(e.tmod 2).toNat]? = some (.bool bE) ∧ ([.int .u8 g0, .int .u8 g1] : List Value)[(e.tmod 2).toNat]? = some (.int .u8 gE) := by
        rcases hE with hE | hE <;> rw [hE]
        · exact ⟨_, _, if_pos rfl, if_pos rfl, rfl, rfl⟩
        · exact ⟨_, _, if_neg (by decide), if_neg (by decide), rfl, rfl⟩
      simp only [eb, eg] at hsh
      clear eb eg hE
      obtain ⟨ei, hei⟩ : ∃ ei : Nat, e.tmod 2 = ei := ⟨(e.tmod 2).toNat, by omega⟩
      rw [hei, Int.toNat_natCast] at lb lg
      rw [hei] at a2
      have ei2 : ei < 2 := by omega
      have ei3 : (ei : Int) < 2 := a2.2
      generalize hm7 : m.get 7 = out at hout
      generalize showL g0 g1 b0 b1 C i = ps at *
      rcases hout with ⟨rfl, rfl⟩ | ⟨g2, rfl, g3, g4, g5⟩
      · rcases hK with hK | hK | hK | hK | ⟨hK1, hK2, hK3, hK4⟩
        all_goals
          simp only [*, List.nil_append] at hsh
          repeat' first | simp (maxSteps := 2000000) (disch := first | omega | (repeat first | assumption | exact Kept.refl _ | refine Kept.set' (by assumption) ?_ ?_ | refine Kept.set (by assumption) ?_ ?_ | omega)) only [go_sem, *, Try.results26] | (first | apply xg1 | apply xc1 | apply xg2 | apply xc2 | apply xc3 | apply xc4 | apply xg3 | apply xg4) <;> intro _ | (first | apply xh1 | apply xh2 | apply xh3 | apply xh4) <;> intro _ | refine EvK_draw (id := 6) (L := w26_6) (by kernel_rfl) (by kernel_rfl) ?_
          all_goals
            refine ih (C.length - (i + 1)) _ _ _ (by omega) ⟨i + 1, by omega, rfl, ?_⟩
            rw [ci]
            clear ih
            simp (maxSteps := 2000000) (disch := first | omega | (repeat first | assumption | exact Kept.refl _ | refine Kept.set' (by assumption) ?_ ?_ | refine Kept.set (by assumption) ?_ ?_ | omega)) only [go_sem, *]
            refine ⟨?_, by repeat (first | exact q3 | refine Kept.set' hW (by omega) ?_), by repeat (first | exact q4.mono (by omega) | refine WfH.set' (by omega) ?_), by omega⟩
            first
              | exact .inl ⟨rfl, rfl⟩
              | exact .inr ⟨_, rfl, by omega, Nat.succ_pos _, heap_same⟩
      · have hll := prL_length ps
        have htk : List.take (ps.length * 2) (prL ps) = prL ps := List.take_of_length_le (by omega)
        have hble : Nat.ble (ps.length + 1) 1048576 = true := Nat.ble_eq_true_of_le (by omega)
        have hbq : (ps.length * 2).beq (ps.length * 2) = true := Nat.beq_refl _
        have g2n := q4.lt g5
        rcases hK with hK | hK | hK | hK | ⟨hK1, hK2, hK3, hK4⟩
        all_goals
          simp only [*] at hsh
          repeat' first | simp (maxSteps := 2000000) (disch := first | omega | (repeat first | assumption | exact Kept.refl _ | refine Kept.set' (by assumption) ?_ ?_ | refine Kept.set (by assumption) ?_ ?_ | omega)) only [go_sem, *, Try.results26] | (first | apply xg1 | apply xc1 | apply xg2 | apply xc2 | apply xc3 | apply xc4 | apply xg3 | apply xg4) <;> intro _ | (first | apply xh1 | apply xh2 | apply xh3 | apply xh4) <;> intro _ | refine EvK_draw (id := 6) (L := w26_6) (by kernel_rfl) (by kernel_rfl) ?_
          all_goals
            refine ih (C.length - (i + 1)) _ _ _ (by omega) ⟨i + 1, by omega, rfl, ?_⟩
            rw [ci]
            clear ih
            simp (maxSteps := 2000000) (disch := first | omega | (repeat first | assumption | exact Kept.refl _ | refine Kept.set' (by assumption) ?_ ?_ | refine Kept.set (by assumption) ?_ ?_ | omega)) only [go_sem, *]
            refine ⟨?_, by repeat (first | exact q3 | refine Kept.set' hW (by omega) ?_), by repeat (first | exact q4.mono (by omega) | refine WfH.set' (by omega) ?_), by omega⟩
            first
              | exact .inr ⟨_, rfl, by omega, by omega, by simp (disch := omega) only [heap_ne]; exact g5⟩
              | exact .inr ⟨_, by rw [List.length_append]; rfl, by omega, by rw [List.length_append]; simp only [List.length_cons]; omega, by rw [prL_append]; exact heap_same⟩
    · have e7 : ¬ (i : Int) < C.length := by omega
      obtain rfl : i = C.length := by omega
      clear ih
      repeat' first | simp (maxSteps := 2000000) (disch := first | omega | (repeat first | assumption | exact Kept.refl _ | refine Kept.set' (by assumption) ?_ ?_ | refine Kept.set (by assumption) ?_ ?_ | omega)) only [go_sem, *, Try.results26] | (first | apply xg1 | apply xc1 | apply xg2 | apply xc2 | apply xc3 | apply xc4 | apply xg3 | apply xg4) <;> intro _ | (first | apply xh1 | apply xh2 | apply xh3 | apply xh4) <;> intro _ | refine EvK_draw (id := 6) (L := w26_6) (by kernel_rfl) (by kernel_rfl) ?_
      rcases hout with ⟨e1, e⟩ | ⟨g, e1, _, e, e2⟩
      · exact .inl ⟨e1, e⟩
      · exact .inr ⟨g, _, _, e1, e2⟩
end Go.Proofs.Ytapcgfakefmemaa
