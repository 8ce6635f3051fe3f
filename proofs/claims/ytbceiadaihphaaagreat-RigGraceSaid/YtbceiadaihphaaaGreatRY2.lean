/-
  A part of the proof: contracts of inner functions.
-/
import Derived.Test.YtbceiadaihphaaaGreatRY1
set_option linter.unusedVariables false
set_option linter.unusedSimpArgs false
namespace Go.Proofs.YtbceiadaihphaaaGreat
open Go.Am
variable {e : Eng} {rep : e.σ → Nat → (Rl → Nat) → (Rl → Option ABlk) → Prop}
@[go_sem] theorem aOp_insert {P : Program} {ρ : Operand → Value} {d : Option Tmp} {ty : TypeId} {pos : String} {af : Array Edge} {g : Option (Nat × Bool)} {t : TypeId} {x i v : Operand} : aOp P ρ ⟨d, .insert t x i v, ty, pos, af, g⟩ = muQ P t (ρ x) (ρ i) (ρ v) := rfl
@[go_sem] theorem operands_insert' {t : TypeId} {a b c : Operand} : (Op.insert t a b c).operands = #[a, b, c] := rfl
@[go_sem] theorem mu48 {r : Nat} {x : Int} {v : Value} : muQ Tryz.prog 75 (.map (some r)) (.int .u8 x) v = .get r (muB Tryz.prog r (.int .u8) (.int .u8 x) v) := muI und48 und5
section
variable {P : Program} {r c i j : Nat} {x a b : Int} {v f g : Value}
@[go_sem] theorem mu8_0 : muB P r (.int .u8) (.int .u8 x) v (.map [] c) = muR r true (.int .u8 x) v [] c (some none) := by
 rw [show ([] : List (Value × Value × Nat)) = ient .u8 [] from rfl, muI_map]; rfl
@[go_sem] theorem mu8_1 (h1 : x ≠ a) : muB P r (.int .u8) (.int .u8 x) v (.map [(.int .u8 a, f, i)] c) = muR r true (.int .u8 x) v [(.int .u8 a, f, i)] c (some none) := by
 rw [show [(Value.int .u8 a, f, i)] = ient .u8 [(a, f, i)] from rfl, muI_map, ifind, if_neg h1]; rfl
@[go_sem] theorem mu8_2 (h1 : x ≠ a) (h2 : x ≠ b) : muB P r (.int .u8) (.int .u8 x) v (.map [(.int .u8 a, f, i), (.int .u8 b, g, j)] c) = muR r true (.int .u8 x) v [(.int .u8 a, f, i), (.int .u8 b, g, j)] c (some none) := by
 rw [show [(Value.int .u8 a, f, i), (Value.int .u8 b, g, j)] = ient .u8 [(a, f, i), (b, g, j)] from rfl, muI_map, ifind, if_neg h1, ifind, if_neg h2]; rfl
end
def PV (d : Rl → Nat) (C : Rl → Option ABlk) (v : Value) (l : List (Nat × Nat)) : Prop :=
 (v = .slice none 0 0 ∧ l = []) ∨ ∃ (q : Rl) (cap : Nat) (L : List Value) (ro : Bool), 60 ≤ q.1 ∧ v = .slice (some ⟨d q, 0, none⟩) l.length cap ∧ C q = rowr L ro ∧ 2 * l.length ≤ L.length ∧ L.take (l.length * 2) = opL l
structure Progs (d : Rl → Nat) (C : Rl → Option ABlk) (ps : Value) (ops : Ops) (ns : Nat) : Prop where
 out : ∃ cap vs ro, ps = .slice (some ⟨d (60, 0), 0, none⟩) ns cap ∧ C (60, 0) = rowr vs ro ∧ ns ≤ vs.length ∧ ∀ i, i < ns → ∃ v, vs[i]? = some v ∧ PV d C v (ops i)
theorem PV.of {d d' : Rl → Nat} {C C' : Rl → Option ABlk} {v : Value} {l : List (Nat × Nat)} (p : PV d C v l) (h : ∀ q : Rl, 60 ≤ q.1 → d' q = d q ∧ C' q = C q) : PV d' C' v l := by
 rcases p with p | ⟨q, cap, L, ro, p0, p1, p2, p3, p4⟩
 ·exact .inl p
 ·exact .inr ⟨q, cap, L, ro, p0, by rw [(h q p0).1]; exact p1, by rw [(h q p0).2]; exact p2, p3, p4⟩
def thS (d : Rl → Nat) (i : Nat) : Value := if i = 0 then .slice none 0 0 else .slice (some ⟨d (41, 0), 0, none⟩) i (capInf + 8)
theorem rowf_snoc8 {i : Nat} {f : Nat → Value} : rowf (8 * i) f ++ [f (i * 8 + 0), f (i * 8 + 1), f (i * 8 + 2), f (i * 8 + 3), f (i * 8 + 4), f (i * 8 + 5), f (i * 8 + 6), f (i * 8 + 7)] = rowf (8 * (i + 1)) f := by
 unfold rowf
 rw [show 8 * (i + 1) = 8 * i + 8 by omega, List.range_add, List.map_append]
 congr 1
 simp only [List.map_map, show List.range 8 = [0, 1, 2, 3, 4, 5, 6, 7] from rfl, List.map_cons, List.map_nil, Function.comp]
 rw [show 8 * i = i * 8 by omega]
structure Cp (d0 : Rl → Nat) (C0 : Rl → Option ABlk) (p : Nat) (s0 : e.σ) (ops : Ops) (i : Nat) (d : Rl → Nat) (C : Rl → Option ABlk) : Prop where
 at_ : d (40, 0) = p
 mach : C (40, 0) = row [.pointer none, .pointer none, thS d i, .slice none 0 0, I6 0, .map none]
 thr : i ≠ 0 → C (41, 0) = row (rowf (8 * i) (tcell ops d (RS.zero s0)))
 ops : ∀ t, t < i → ops t ≠ [] → C (42, t) = row (opL (ops t))
 oth : ∀ a b, a ≠ 40 → a ≠ 41 → a ≠ 42 → d (a, b) = d0 (a, b) ∧ C (a, b) = C0 (a, b)
theorem tfld_zero {s0 : e.σ} (idle : ∀ t, e.ent s0 t = false ∧ e.wt s0 t = false ∧ e.inn s0 t = false) {ops : Ops} {d : Rl → Nat} {t j : Nat} : tfld ops d (RS.zero s0) t j = match j with
  | 0 => if ops t = [] then .slice none 0 0 else .slice (some ⟨d (42, t), 0, none⟩) (ops t).length (capInf + 2)
  | 1 => I6 0
  | 2 => .pointer none
  | 3 => .pointer none
  | 4 => U8 0
  | 5 => .bool false
  | 6 => .bool false
  | _ => U6 0 := by
 obtain ⟨i1, i2, i3⟩ := idle t
 match j with
 | 0 => rfl
 | 1 => rfl
 | 2 => show (if e.ent s0 t = true then _ else _) = _; rw [i1]; rfl
 | 3 => show (if e.wt s0 t = true then _ else _) = _; rw [i2]; rfl
 | 4 => rfl
 | 5 => rfl
 | 6 => show Value.bool (e.inn s0 t) = Value.bool false; rw [i3]
 | j + 7 => rfl
theorem cells_new {s0 : e.σ} (idle : ∀ t, e.ent s0 t = false ∧ e.wt s0 t = false ∧ e.inn s0 t = false) {ops : Ops} {d d' : Rl → Nat} {i : Nat} {L : List Value} (hL : L = rowf (8 * i) (tcell ops d (RS.zero s0))) (hd : ∀ t, t < i → d' (42, t) = d (42, t)) {v : Value} (hv : v = if ops i = [] then .slice none 0 0 else .slice (some ⟨d' (42, i), 0, none⟩) (ops i).length (capInf + 2)) : L ++ [v, I6 0, .pointer none, .pointer none, U8 0, .bool false, .bool false, U6 0] = rowf (8 * (i + 1)) (tcell ops d' (RS.zero s0)) := by
 rw [← rowf_snoc8, hL, hv]
 congr 1
 ·refine rowf_congr (all8 fun u j hu hj => ?_)
  rw [tcell_at hj, tcell_at hj, tfld_zero idle, tfld_zero idle, hd u hu]
 ·rw [tcell_at (by omega), tcell_at (by omega), tcell_at (by omega), tcell_at (by omega), tcell_at (by omega), tcell_at (by omega), tcell_at (by omega), tcell_at (by omega)]
  simp only [tfld_zero idle]
theorem Cp.next {s0 : e.σ} (idle : ∀ t, e.ent s0 t = false ∧ e.wt s0 t = false ∧ e.inn s0 t = false) {d0 d d2 : Rl → Nat} {C0 C C2 : Rl → Option ABlk} {p i : Nat} {ops : Ops} (P : Cp d0 C0 p s0 ops i d C) (L : List Value) (v : Value) (hL : L = rowf (8 * i) (tcell ops d (RS.zero s0))) (hv : v = if ops i = [] then .slice none 0 0 else .slice (some ⟨d2 (42, i), 0, none⟩) (ops i).length (capInf + 2)) (ho : ops i ≠ [] → C2 (42, i) = row (opL (ops i)))
  (hx : ∀ s, s ≠ (40, 0) → s ≠ (41, 0) → s ≠ (42, i) → d2 s = d s ∧ C2 s = C s) (h40 : d2 (40, 0) = d (40, 0)) (hm : C2 (40, 0) = row [.pointer none, .pointer none, .slice (some ⟨d2 (41, 0), 0, none⟩) (i + 1) (capInf + 8), .slice none 0 0, I6 0, .map none]) (ht : C2 (41, 0) = row (L ++ [v, I6 0, .pointer none, .pointer none, U8 0, .bool false, .bool false, U6 0])) : Cp d0 C0 p s0 ops (i + 1) d2 C2 := by
 have h42 : ∀ t, t < i → d2 (42, t) = d (42, t) ∧ C2 (42, t) = C (42, t) := fun t h => hx _ (by simp) (by simp) (by simp; omega)
 refine ⟨h40.trans P.at_, hm, fun _ => ?_, fun t h1 h2 => ?_, fun a b c1 c2 c3 => ?_⟩
 ·rw [ht, cells_new idle hL (fun t h => (h42 t h).1) hv]
 ·by_cases c : t = i
  ·subst c; exact ho h2
  ·exact (h42 t (by omega)).2.trans (P.ops t (by omega) h2)
 ·obtain ⟨q1, q2⟩ := hx (a, b) (by simp [c1]) (by simp [c2]) (by simp [c3])
  obtain ⟨q3, q4⟩ := P.oth a b c1 c2 c3
  exact ⟨q1.trans q3, q2.trans q4⟩
set_option maxRecDepth 100000 in
set_option maxHeartbeats 8000000 in
theorem rnewB {hasv : e.σ → Nat → Nat → Prop} {guard fresh : e.σ → Nat → Nat → Prop} {ns kd nb nw : Nat} {s0 : e.σ} (hns : 0 < ns ∧ ns ≤ 64) (F : Face e ns rep) (G : e.Grace ns hasv guard) (Fe : e.Fresh ns hasv guard fresh) (hkind : ∀ {s k d C}, rep s k d C → ∃ x z, C (4, 0) = row [x, U8 kd, z]) {xp : Nat} (hxp : xp = if kd = 3 then 16 else 13) (B : Start e ns rep kd nb nw s0) {h : PT ABlk} {n : Nat} {d : Rl → Nat} {C : Rl → Option ABlk} {ops : Ops} {ps : Value} (ok : OpsOk ops ns) (S : St h n d C) (P : Progs d C ps ops ns) (hsc : C (20, 0) = none) :
  EvB Tryz.prog OP 15 [U8 kd, I6 nb, ps] h n fun v h' n' => ∃ d' C', v = tup [pt (d' (40, 0)), I6 0] ∧ St h' n' d' C' ∧ RepR rep ops ns (tcell ops d' (RS.begs ops xp (RS.zero s0) ns)) (RS.begs ops xp (RS.zero s0) ns) 0 d' C' ∧ ∀ a b, 60 ≤ a → d' (a, b) = d (a, b) ∧ C' (a, b) = C (a, b) := by
 subst hxp
 obtain ⟨cap, vs, ro, rfl, h60, hvl, hvs⟩ := P.out
 have g60 := S.at h60
 have n60 := S.lt h60
 have t1 : ¬ (ns : Int) < 1 := by omega
 have t2 : ¬ (64 : Int) < ns := by omega
 obtain ⟨ns1, ns2⟩ := hns
 refine EvB_run (N := 112) Tryz.func15 rfl rfl fun z hP hO hro hN hQ => ?_
 repeat' first | simp (maxSteps := 2000000) (disch := first | omega | assumption) only [go_sem, *] | (apply xs <;> intro _) <;> try omega
 refine cal (B.wordsB S) (by simp only [*]) (by simp only [*]) (by simp only [go_sem, *]) (by simp only [go_sem, *]) ?_
 rintro rr h1 n1 ⟨rfl, S1⟩
 clear g60
 repeat' first | simp (maxSteps := 2000000) (disch := first | omega | assumption) only [go_sem, *] | (apply xs <;> intro _) <;> try omega
 have S2 := S1.new (40, 0) (.cells (PT.ofList .leaf 0 [.pointer none, .pointer none, .slice none 0 0, .slice none 0 0, I6 0, .map none]) false) (Nat.le_refl _) (Nat.lt_succ_self _)
 have hc0 : Cp d C n1 s0 ops 0 (upd d (40, 0) n1) (upd C (40, 0) (row [.pointer none, .pointer none, .slice none 0 0, .slice none 0 0, I6 0, .map none])) := ⟨by simp (disch := first | decide | assumption | omega) only [rM, rW, rL, upd_same, upd_tag, upd_num, memC_ne], by (simp (disch := first | decide | assumption | omega) only [rM, rW, rL, upd_same, upd_tag, upd_num, memC_ne]) <;> rfl, fun c => absurd rfl c, fun t ht => absurd ht (by omega), fun a b c1 c2 c3 => ⟨by simp (disch := first | decide | assumption | omega) only [rM, rW, rL, upd_same, upd_tag, upd_num, memC_ne], by simp (disch := first | decide | assumption | omega) only [rM, rW, rL, upd_same, upd_tag, upd_num, memC_ne]⟩⟩
 refine ind_loop (fun t m h' n' => ∃ i : Nat, i ≤ ns ∧ t = ns - i ∧ m.n = 112 ∧ m.dfs = [] ∧ m.get 0 = U8 kd ∧ m.get 1 = I6 nb ∧ m.get 2 = .slice (some ⟨d (60, 0), 0, none⟩) ns cap ∧ m.get 8 = I6 nw ∧ m.get 10 = pt n1 ∧ m.get 35 = .slice (some ⟨d (60, 0), 0, none⟩) ns cap ∧ m.get 36 = I6 ns ∧ m.get 37 = I6 i ∧ ∃ d' C', St h' n' d' C' ∧ Cp d C n1 s0 ops i d' C') ns ?_ ?_
 ·refine ⟨0, by omega, by omega, ?_⟩
  simp (maxSteps := 2000000) (disch := first | omega | assumption) only [go_sem, *]
  exact ⟨_, _, S2, hc0⟩
 ·clear hc0 S2 S1
  rintro t m h' n' ih ⟨i, hi, rfl, m1, m2, m3, m4, m5, m6, m7, m8, m9, m10, d', C', S3, P3⟩
  rcases Nat.lt_or_ge i ns with hlt | hge
  ·have e7 : (i : Int) < ns := by omega
   have hci : ((i + 1 : Nat) : Int) = (i : Int) + 1 := by omega
   obtain ⟨v, hv, pv⟩ := hvs i hlt
   have pv := pv.of fun q hq => P3.oth q.1 q.2 (by omega) (by omega) (by omega)
   have g60 := S3.at ((P3.oth 60 0 (by omega) (by omega) (by omega)).2.trans h60)
   rw [(P3.oth 60 0 (by omega) (by omega) (by omega)).1] at g60
   have g40 := S3.at P3.mach
   have n40 := S3.lt P3.mach
   rw [P3.at_] at g40 n40
   have hle : (ops i).length ≤ 30 := (ok i hlt).1
   rcases pv with ⟨rfl, h0⟩ | ⟨pq, cp, L, ro2, hpq, rfl, h61, hL1, hL2⟩
   ·by_cases c0 : i = 0
    ·subst c0
     have e0 : thS d' 0 = .slice none 0 0 := rfl
     rw [e0] at g40
     repeat' first | simp (maxSteps := 2000000) (disch := first | omega | assumption) only [go_sem, *] | (apply xs <;> intro _) <;> try omega | ((with_reducible refine isD 12 ?_); refine dw 112 12 w15_12 (by first | (simp only [go_sem, *]; done) | rfl) (by kernel_rfl) (by kernel_rfl) ?_)
     refine ih (ns - (0 + 1)) _ _ _ (by omega) ⟨0 + 1, by omega, rfl, ?_⟩
     clear ih
     simp (maxSteps := 2000000) (disch := first | omega | assumption) only [go_sem, *]
     refine ⟨_, _, ((S3.junk (Nat.le_refl _) (Nat.lt_succ_self _)).new (41, 0) _ (Nat.le_refl _) (Nat.lt_succ_self _)).set (40, 0) _ (by simp (disch := first | decide | assumption | omega) only [rM, rW, rL, upd_same, upd_tag, upd_num, memC_ne]; exact P3.mach) (by simp (disch := first | decide | assumption | omega) only [rM, rW, rL, upd_same, upd_tag, upd_num, memC_ne]; exact P3.at_), ?_⟩
     refine Cp.next B.idle P3 ([]) (.slice none 0 0) rfl (if_pos h0).symm (fun c => absurd h0 c) (fun s h1 h2 h3 => ⟨by simp only [upd_ne h1, upd_ne h2, upd_ne h3], by simp only [upd_ne h1, upd_ne h2, upd_ne h3]⟩) (by simp (disch := first | decide | assumption | omega) only [rM, rW, rL, upd_same, upd_tag, upd_num, memC_ne]) (by (simp (disch := first | decide | assumption | omega) only [rM, rW, rL, upd_same, upd_tag, upd_num, memC_ne]) <;> rfl) (by (simp (disch := first | decide | assumption | omega) only [rM, rW, rL, upd_same, upd_tag, upd_num, memC_ne]) <;> rfl)
    ·have e0 : thS d' i = .slice (some ⟨d' (41, 0), 0, none⟩) i (capInf + 8) := if_neg c0
     rw [e0] at g40
     have g41 := S3.at (P3.thr c0)
     have n41 := S3.lt (P3.thr c0)
     have w1 := S3.df P3.mach (P3.thr c0) (by simp)
     rw [P3.at_] at w1
     have hrl : (rowf (8 * i) (tcell ops d' (RS.zero s0))).length = i * 8 := by rw [rowf_length]; omega
     have htk : List.take (i * 8) (rowf (8 * i) (tcell ops d' (RS.zero s0))) = rowf (8 * i) (tcell ops d' (RS.zero s0)) := List.take_of_length_le (by omega)
     have i0 : 0 < i := by omega
     generalize hR : rowf (8 * i) (tcell ops d' (RS.zero s0)) = R at *
     repeat' first | simp (maxSteps := 2000000) (disch := first | omega | assumption) only [go_sem, *] | (apply xs <;> intro _) <;> try omega | ((with_reducible refine isD 12 ?_); refine dw 112 12 w15_12 (by first | (simp only [go_sem, *]; done) | rfl) (by kernel_rfl) (by kernel_rfl) ?_)
     refine ih (ns - (i + 1)) _ _ _ (by omega) ⟨i + 1, by omega, rfl, ?_⟩
     rw [hci]
     clear ih
     simp (maxSteps := 2000000) (disch := first | omega | assumption) only [go_sem, *]
     refine ⟨_, _, (((S3.junk (Nat.le_refl _) (Nat.lt_succ_self _)).kill (41, 0) (P3.thr c0) rfl).new (41, 0) _ (Nat.le_refl _) (Nat.lt_succ_self _)).set (40, 0) _ (by simp (disch := first | decide | assumption | omega) only [rM, rW, rL, upd_same, upd_tag, upd_num, memC_ne]; exact P3.mach) (by simp (disch := first | decide | assumption | omega) only [rM, rW, rL, upd_same, upd_tag, upd_num, memC_ne]; exact P3.at_), ?_⟩
     refine Cp.next B.idle P3 (R) (.slice none 0 0) hR.symm (if_pos h0).symm (fun c => absurd h0 c) (fun s h1 h2 h3 => ⟨by simp only [upd_ne h1, upd_ne h2, upd_ne h3], by simp only [upd_ne h1, upd_ne h2, upd_ne h3]⟩) (by simp (disch := first | decide | assumption | omega) only [rM, rW, rL, upd_same, upd_tag, upd_num, memC_ne]) (by (simp (disch := first | decide | assumption | omega) only [rM, rW, rL, upd_same, upd_tag, upd_num, memC_ne]) <;> rfl) (by (simp (disch := first | decide | assumption | omega) only [rM, rW, rL, upd_same, upd_tag, upd_num, memC_ne]) <;> rfl)
   ·by_cases h0 : ops i = []
    ·by_cases c0 : i = 0
     ·subst c0
      have e0 : thS d' 0 = .slice none 0 0 := rfl
      rw [e0] at g40
      have g61 := S3.at h61
      have n61 := S3.lt h61
      have w2 := S3.df P3.mach h61 (fun c => by have q := congrArg Prod.fst c; simp only at q; omega)
      rw [P3.at_] at w2
      have hl0 : (ops 0).length = 0 := by rw [h0]; rfl
      repeat' first | simp (maxSteps := 2000000) (disch := first | omega | assumption) only [go_sem, *] | (apply xs <;> intro _) <;> try omega | ((with_reducible refine isD 12 ?_); refine dw 112 12 w15_12 (by first | (simp only [go_sem, *]; done) | rfl) (by kernel_rfl) (by kernel_rfl) ?_)
      refine ih (ns - (0 + 1)) _ _ _ (by omega) ⟨0 + 1, by omega, rfl, ?_⟩
      clear ih
      simp (maxSteps := 2000000) (disch := first | omega | assumption) only [go_sem, *]
      refine ⟨_, _, ((S3.junk (Nat.le_refl _) (Nat.lt_succ_self _)).new (41, 0) _ (Nat.le_refl _) (Nat.lt_succ_self _)).set (40, 0) _ (by simp (disch := first | decide | assumption | omega) only [rM, rW, rL, upd_same, upd_tag, upd_num, memC_ne]; exact P3.mach) (by simp (disch := first | decide | assumption | omega) only [rM, rW, rL, upd_same, upd_tag, upd_num, memC_ne]; exact P3.at_), ?_⟩
      refine Cp.next B.idle P3 ([]) (.slice none 0 0) rfl (if_pos h0).symm (fun c => absurd h0 c) (fun s h1 h2 h3 => ⟨by simp only [upd_ne h1, upd_ne h2, upd_ne h3], by simp only [upd_ne h1, upd_ne h2, upd_ne h3]⟩) (by simp (disch := first | decide | assumption | omega) only [rM, rW, rL, upd_same, upd_tag, upd_num, memC_ne]) (by (simp (disch := first | decide | assumption | omega) only [rM, rW, rL, upd_same, upd_tag, upd_num, memC_ne]) <;> rfl) (by (simp (disch := first | decide | assumption | omega) only [rM, rW, rL, upd_same, upd_tag, upd_num, memC_ne]) <;> rfl)
     ·have e0 : thS d' i = .slice (some ⟨d' (41, 0), 0, none⟩) i (capInf + 8) := if_neg c0
      rw [e0] at g40
      have g41 := S3.at (P3.thr c0)
      have n41 := S3.lt (P3.thr c0)
      have w1 := S3.df P3.mach (P3.thr c0) (by simp)
      rw [P3.at_] at w1
      have hrl : (rowf (8 * i) (tcell ops d' (RS.zero s0))).length = i * 8 := by rw [rowf_length]; omega
      have htk : List.take (i * 8) (rowf (8 * i) (tcell ops d' (RS.zero s0))) = rowf (8 * i) (tcell ops d' (RS.zero s0)) := List.take_of_length_le (by omega)
      have i0 : 0 < i := by omega
      generalize hR : rowf (8 * i) (tcell ops d' (RS.zero s0)) = R at *
      have g61 := S3.at h61
      have n61 := S3.lt h61
      have w2 := S3.df P3.mach h61 (fun c => by have q := congrArg Prod.fst c; simp only at q; omega)
      rw [P3.at_] at w2
      have w3 := S3.df (P3.thr c0) h61 (fun c => by have q := congrArg Prod.fst c; simp only at q; omega)
      have hl0 : (ops i).length = 0 := by rw [h0]; rfl
      repeat' first | simp (maxSteps := 2000000) (disch := first | omega | assumption) only [go_sem, *] | (apply xs <;> intro _) <;> try omega | ((with_reducible refine isD 12 ?_); refine dw 112 12 w15_12 (by first | (simp only [go_sem, *]; done) | rfl) (by kernel_rfl) (by kernel_rfl) ?_)
      refine ih (ns - (i + 1)) _ _ _ (by omega) ⟨i + 1, by omega, rfl, ?_⟩
      rw [hci]
      clear ih
      simp (maxSteps := 2000000) (disch := first | omega | assumption) only [go_sem, *]
      refine ⟨_, _, (((S3.junk (Nat.le_refl _) (Nat.lt_succ_self _)).kill (41, 0) (P3.thr c0) rfl).new (41, 0) _ (Nat.le_refl _) (Nat.lt_succ_self _)).set (40, 0) _ (by simp (disch := first | decide | assumption | omega) only [rM, rW, rL, upd_same, upd_tag, upd_num, memC_ne]; exact P3.mach) (by simp (disch := first | decide | assumption | omega) only [rM, rW, rL, upd_same, upd_tag, upd_num, memC_ne]; exact P3.at_), ?_⟩
      refine Cp.next B.idle P3 (R) (.slice none 0 0) hR.symm (if_pos h0).symm (fun c => absurd h0 c) (fun s h1 h2 h3 => ⟨by simp only [upd_ne h1, upd_ne h2, upd_ne h3], by simp only [upd_ne h1, upd_ne h2, upd_ne h3]⟩) (by simp (disch := first | decide | assumption | omega) only [rM, rW, rL, upd_same, upd_tag, upd_num, memC_ne]) (by (simp (disch := first | decide | assumption | omega) only [rM, rW, rL, upd_same, upd_tag, upd_num, memC_ne]) <;> rfl) (by (simp (disch := first | decide | assumption | omega) only [rM, rW, rL, upd_same, upd_tag, upd_num, memC_ne]) <;> rfl)
    ·by_cases c0 : i = 0
     ·subst c0
      have e0 : thS d' 0 = .slice none 0 0 := rfl
      rw [e0] at g40
      have g61 := S3.at h61
      have n61 := S3.lt h61
      have w2 := S3.df P3.mach h61 (fun c => by have q := congrArg Prod.fst c; simp only at q; omega)
      rw [P3.at_] at w2
      have hl0 : 0 < (ops 0).length := List.length_pos_iff.2 h0
      have hol := opL_length (ops 0)
      generalize hq : (ops 0).length = q at *
      repeat' first | simp (maxSteps := 2000000) (disch := first | omega | assumption) only [go_sem, *] | (apply xs <;> intro _) <;> try omega | ((with_reducible refine isD 12 ?_); refine dw 112 12 w15_12 (by first | (simp only [go_sem, *]; done) | rfl) (by kernel_rfl) (by kernel_rfl) ?_)
      refine ih (ns - (0 + 1)) _ _ _ (by omega) ⟨0 + 1, by omega, rfl, ?_⟩
      clear ih
      simp (maxSteps := 2000000) (disch := first | omega | assumption) only [go_sem, *]
      refine ⟨_, _, (((S3.new (42, 0) _ (Nat.le_refl _) (Nat.lt_succ_self _)).junk (Nat.le_refl _) (Nat.lt_succ_self _)).new (41, 0) _ (Nat.le_refl _) (Nat.lt_succ_self _)).set (40, 0) _ (by simp (disch := first | decide | assumption | omega) only [rM, rW, rL, upd_same, upd_tag, upd_num, memC_ne]; exact P3.mach) (by simp (disch := first | decide | assumption | omega) only [rM, rW, rL, upd_same, upd_tag, upd_num, memC_ne]; exact P3.at_), ?_⟩
      refine Cp.next B.idle P3 ([]) (.slice (some ⟨n', 0, none⟩) q (capInf + 2)) rfl (by rw [if_neg h0, hq]; (simp (disch := first | decide | assumption | omega) only [rM, rW, rL, upd_same, upd_tag, upd_num, memC_ne]) <;> rfl) (fun _ => by (simp (disch := first | decide | assumption | omega) only [rM, rW, rL, upd_same, upd_tag, upd_num, memC_ne]) <;> rfl) (fun s h1 h2 h3 => ⟨by simp only [upd_ne h1, upd_ne h2, upd_ne h3], by simp only [upd_ne h1, upd_ne h2, upd_ne h3]⟩) (by simp (disch := first | decide | assumption | omega) only [rM, rW, rL, upd_same, upd_tag, upd_num, memC_ne]) (by (simp (disch := first | decide | assumption | omega) only [rM, rW, rL, upd_same, upd_tag, upd_num, memC_ne]) <;> rfl) (by (simp (disch := first | decide | assumption | omega) only [rM, rW, rL, upd_same, upd_tag, upd_num, memC_ne]) <;> rfl)
     ·have e0 : thS d' i = .slice (some ⟨d' (41, 0), 0, none⟩) i (capInf + 8) := if_neg c0
      rw [e0] at g40
      have g41 := S3.at (P3.thr c0)
      have n41 := S3.lt (P3.thr c0)
      have w1 := S3.df P3.mach (P3.thr c0) (by simp)
      rw [P3.at_] at w1
      have hrl : (rowf (8 * i) (tcell ops d' (RS.zero s0))).length = i * 8 := by rw [rowf_length]; omega
      have htk : List.take (i * 8) (rowf (8 * i) (tcell ops d' (RS.zero s0))) = rowf (8 * i) (tcell ops d' (RS.zero s0)) := List.take_of_length_le (by omega)
      have i0 : 0 < i := by omega
      generalize hR : rowf (8 * i) (tcell ops d' (RS.zero s0)) = R at *
      have g61 := S3.at h61
      have n61 := S3.lt h61
      have w2 := S3.df P3.mach h61 (fun c => by have q := congrArg Prod.fst c; simp only at q; omega)
      rw [P3.at_] at w2
      have w3 := S3.df (P3.thr c0) h61 (fun c => by have q := congrArg Prod.fst c; simp only at q; omega)
      have hl0 : 0 < (ops i).length := List.length_pos_iff.2 h0
      have hol := opL_length (ops i)
      generalize hq : (ops i).length = q at *
      repeat' first | simp (maxSteps := 2000000) (disch := first | omega | assumption) only [go_sem, *] | (apply xs <;> intro _) <;> try omega | ((with_reducible refine isD 12 ?_); refine dw 112 12 w15_12 (by first | (simp only [go_sem, *]; done) | rfl) (by kernel_rfl) (by kernel_rfl) ?_)
      refine ih (ns - (i + 1)) _ _ _ (by omega) ⟨i + 1, by omega, rfl, ?_⟩
      rw [hci]
      clear ih
      simp (maxSteps := 2000000) (disch := first | omega | assumption) only [go_sem, *]
      refine ⟨_, _, ((((S3.new (42, i) _ (Nat.le_refl _) (Nat.lt_succ_self _)).junk (Nat.le_refl _) (Nat.lt_succ_self _)).kill (41, 0) (by simp (disch := first | decide | assumption | omega) only [rM, rW, rL, upd_same, upd_tag, upd_num, memC_ne]; exact P3.thr c0) (by simp (disch := first | decide | assumption | omega) only [rM, rW, rL, upd_same, upd_tag, upd_num, memC_ne])).new (41, 0) _ (Nat.le_refl _) (Nat.lt_succ_self _)).set (40, 0) _ (by simp (disch := first | decide | assumption | omega) only [rM, rW, rL, upd_same, upd_tag, upd_num, memC_ne]; exact P3.mach) (by simp (disch := first | decide | assumption | omega) only [rM, rW, rL, upd_same, upd_tag, upd_num, memC_ne]; exact P3.at_), ?_⟩
      refine Cp.next B.idle P3 (R) (.slice (some ⟨n', 0, none⟩) q (capInf + 2)) hR.symm (by rw [if_neg h0, hq]; (simp (disch := first | decide | assumption | omega) only [rM, rW, rL, upd_same, upd_tag, upd_num, memC_ne]) <;> rfl) (fun _ => by (simp (disch := first | decide | assumption | omega) only [rM, rW, rL, upd_same, upd_tag, upd_num, memC_ne]) <;> rfl) (fun s h1 h2 h3 => ⟨by simp only [upd_ne h1, upd_ne h2, upd_ne h3], by simp only [upd_ne h1, upd_ne h2, upd_ne h3]⟩) (by simp (disch := first | decide | assumption | omega) only [rM, rW, rL, upd_same, upd_tag, upd_num, memC_ne]) (by (simp (disch := first | decide | assumption | omega) only [rM, rW, rL, upd_same, upd_tag, upd_num, memC_ne]) <;> rfl) (by (simp (disch := first | decide | assumption | omega) only [rM, rW, rL, upd_same, upd_tag, upd_num, memC_ne]) <;> rfl)
  ·obtain rfl : i = ns := by omega
   have e0 : thS d' i = .slice (some ⟨d' (41, 0), 0, none⟩) i (capInf + 8) := if_neg (by omega)
   have g40 := S3.at P3.mach
   have n40 := S3.lt P3.mach
   rw [P3.at_] at g40 n40
   rw [e0] at g40
   have hz := nl_zero nw
   obtain ⟨w1, w2⟩ := B.wpos
   have hc1 : Nat.ble nw 1048576 = true := Nat.ble_eq_true_of_le (by omega)
   have q := memNewS (b := n') (cap := nw) (W := nl nw fun _ => 0) (ro := false) (S3.junk (B := some (.cells (PT.ofList .leaf 0 ((nl nw fun _ => 0).map (.int .u64))) false)) (Nat.le_refl _) (Nat.lt_succ_self n')) heap_same (by rw [nl_length]; omega) (by rw [nl_length]; omega)
   rw [nl_length] at q
   clear ih
   repeat' first | simp (maxSteps := 2000000) (disch := first | omega | assumption) only [go_sem, *] | (apply xs <;> intro _) <;> try omega
   refine cal (q) (by simp only [*]) (by simp only [*]) (by simp only [go_sem, *]) (by simp only [go_sem, *]) ?_
   rintro r h2 n2 ⟨d1, C1, rfl, S4, M1, k1⟩
   clear q hz g40
   have g40 := S4.at ((k1 40 0 (by omega)).2.trans P3.mach)
   have n40 := S4.lt ((k1 40 0 (by omega)).2.trans P3.mach)
   rw [(k1 40 0 (by omega)).1, P3.at_] at g40 n40
   rw [e0] at g40
   repeat' first | simp (maxSteps := 2000000) (disch := first | omega | assumption) only [go_sem, *] | (apply xs <;> intro _) <;> try omega
   have S5 := S4.set (40, 0) (i := n1) (.cells (PT.ofList .leaf 0 [pt (d1 rM), .pointer none, .slice (some ⟨d' (41, 0), 0, none⟩) i (capInf + 8), .slice none 0 0, I6 0, .map none]) false) ((k1 40 0 (by omega)).2.trans P3.mach) ((k1 40 0 (by omega)).1.trans P3.at_)
   have sc1 : upd C1 (40, 0) (row [pt (d1 rM), .pointer none, .slice (some ⟨d' (41, 0), 0, none⟩) i (capInf + 8), .slice none 0 0, I6 0, .map none]) (20, 0) = none := by simp (disch := first | decide | assumption | omega) only [rM, rW, rL, upd_same, upd_tag, upd_num, memC_ne]; exact (k1 20 0 (by omega)).2.trans ((P3.oth 20 0 (by omega) (by omega) (by omega)).2.trans hsc)
   refine cal (B.newB S5 (M1.updC (by omega)) sc1) (by simp only [*]) (by simp only [*]) (by simp only [go_sem, *]) (by simp only [go_sem, *]) ?_
   rintro r h3 n3 ⟨d2, C2, rfl, S6, R6, k2m, k2⟩
   have g40 := S6.at ((k2 40 0 (by omega)).2.trans upd_same)
   have n40 := S6.lt ((k2 40 0 (by omega)).2.trans upd_same)
   rw [(k2 40 0 (by omega)).1, (k1 40 0 (by omega)).1, P3.at_] at g40 n40
   clear S5
   repeat' first | simp (maxSteps := 2000000) (disch := first | omega | assumption) only [go_sem, *] | (apply xs <;> intro _) <;> try omega
   have S7 := (((((S6.set (40, 0) (i := n1) (.cells (PT.ofList .leaf 0 [pt (d1 rM), pt (d2 (4, 0)), .slice (some ⟨d' (41, 0), 0, none⟩) i (capInf + 8), .slice none 0 0, I6 0, .map none]) false) ((k2 40 0 (by omega)).2.trans upd_same) ((k2 40 0 (by omega)).1.trans ((k1 40 0 (by omega)).1.trans P3.at_))).new (44, 0) (.map [] 0) (Nat.le_refl _) (Nat.lt_succ_self _)).set (44, 0) (.map [(.int .u8 1, .func (.func 33) ⟨[pt n1]⟩ ⟨[]⟩, 0)] 1) upd_same upd_same).set (44, 0) (.map [(.int .u8 1, .func (.func 33) ⟨[pt n1]⟩ ⟨[]⟩, 0), (.int .u8 2, .func (.func 34) ⟨[pt n1]⟩ ⟨[]⟩, 1)] 2) upd_same upd_same).set (44, 0) (.map (ient .u8 (kindsM n1)) 3) upd_same upd_same).set (40, 0) (i := n1) (.cells (PT.ofList .leaf 0 [pt (d1 rM), pt (d2 (4, 0)), .slice (some ⟨d' (41, 0), 0, none⟩) i (capInf + 8), .slice none 0 0, I6 0, .map (some n3)]) false) (by (simp (disch := first | decide | assumption | omega) only [rM, rW, rL, upd_same, upd_tag, upd_num, memC_ne]) <;> rfl) (by simp (disch := first | decide | assumption | omega) only [rM, rW, rL, upd_same, upd_tag, upd_num, memC_ne]; exact (k2 40 0 (by omega)).1.trans ((k1 40 0 (by omega)).1.trans P3.at_))
   have R7 := F.cliC (a := 40) (b := 0) (B := row [pt (d1 rM), pt (d2 (4, 0)), .slice (some ⟨d' (41, 0), 0, none⟩) i (capInf + 8), .slice none 0 0, I6 0, .map (some n3)]) (F.cliC (a := 44) (b := 0) (B := some (.map (ient .u8 (kindsM n1)) 3)) (F.cliC (a := 44) (b := 0) (B := some (.map [(.int .u8 1, .func (.func 33) ⟨[pt n1]⟩ ⟨[]⟩, 0), (.int .u8 2, .func (.func 34) ⟨[pt n1]⟩ ⟨[]⟩, 1)] 2)) (F.cliC (a := 44) (b := 0) (B := some (.map [(.int .u8 1, .func (.func 33) ⟨[pt n1]⟩ ⟨[]⟩, 0)] 1)) (F.cliC (a := 44) (b := 0) (B := some (.map [] 0)) (F.cliD (a := 44) (b := 0) (i := n3) (F.cliC (a := 40) (b := 0) (B := row [pt (d1 rM), pt (d2 (4, 0)), .slice (some ⟨d' (41, 0), 0, none⟩) i (capInf + 8), .slice none 0 0, I6 0, .map none]) R6 (by omega)) (by omega)) (by omega)) (by omega)) (by omega)) (by omega)) (by omega)
   obtain ⟨d7, hd7⟩ : ∃ d7, d7 = upd d2 (44, 0) n3 := ⟨_, rfl⟩
   rw [← hd7] at S7 R7
   have hx7 : ∀ a b, a = 4 ∨ 30 ≤ a → a ≠ 44 → d7 (a, b) = d2 (a, b) := fun a b _ c => by rw [hd7, upd_tag (by omega)]
   have h44 : d7 (44, 0) = n3 := by rw [hd7, upd_same]
   have h7M : d7 rM = d1 rM := by rw [hd7]; exact (upd_tag (by decide)).trans k2m
   have hyd : ∀ a b, 30 ≤ a → a ≠ 44 → d7 (a, b) = d' (a, b) := fun a b c1 c2 => (hx7 a b (.inr c1) c2).trans ((k2 a b c1).1.trans (k1 a b (by omega)).1)
   have hyC : ∀ a b, 30 ≤ a → a ≠ 40 → C2 (a, b) = C' (a, b) := fun a b c1 c2 => (k2 a b c1).2.trans ((upd_tag c2).trans (k1 a b (by omega)).2)
   have hthr : rowf (8 * i) (tcell ops d' (RS.zero s0)) = rowf (8 * i) (tcell ops d7 (RS.zero s0)) := rowf_congr (all8 fun u j hu hj => by rw [tcell_at hj, tcell_at hj, tfld_zero B.idle, tfld_zero B.idle, hyd 42 u (by omega) (by omega)])
   have Z : RepR rep ops i (tcell ops d7 (RS.zero s0)) (RS.zero s0) 0 d7 _ := ⟨R7, by
     refine upd_same.trans ?_
     unfold mrow evS
     rw [h7M, hx7 4 0 (.inl rfl) (by omega), hyd 41 0 (by omega) (by omega), h44]; rfl, by
     simp (disch := first | decide | assumption | omega) only [rM, rW, rL, upd_same, upd_tag, upd_num, memC_ne]
     rw [hyC 41 0 (by omega) (by omega), P3.thr (by omega), hthr], fun t ht hne => by
     simp (disch := first | decide | assumption | omega) only [rM, rW, rL, upd_same, upd_tag, upd_num, memC_ne]
     rw [hyC 42 t (by omega) (by omega)]; exact P3.ops t ht hne, fun c => absurd rfl c, by
     simp (disch := first | decide | assumption | omega) only [rM, rW, rL, upd_same, upd_tag, upd_num, memC_ne]
     rw [hyd 40 0 (by omega) (by omega), P3.at_]⟩
   have hall : ∀ a b, 60 ≤ a → d7 (a, b) = d (a, b) ∧ C2 (a, b) = C (a, b) := fun a b c => ⟨(hyd a b (by omega) (by omega)).trans (P3.oth a b (by omega) (by omega) (by omega)).1, (hyC a b (by omega) (by omega)).trans (P3.oth a b (by omega) (by omega) (by omega)).2⟩
   have h40 : d7 (40, 0) = n1 := (hyd 40 0 (by omega) (by omega)).trans P3.at_
   generalize hC7 : upd (upd _ (44, 0) _) (40, 0) _ = C7 at S7 Z
   have hall7 : ∀ a b, 60 ≤ a → d7 (a, b) = d (a, b) ∧ C7 (a, b) = C (a, b) := fun a b c => ⟨(hall a b c).1, by rw [← hC7]; simp (disch := first | decide | assumption | omega) only [rM, rW, rL, upd_same, upd_tag, upd_num, memC_ne]; exact (hall a b c).2⟩
   clear hC7 R7 hall hyC hyd h7M h44 hx7 hd7
   clear g40 P3 S3 S4 S6 M1 hvs hvl h60 n60 P S R6 sc1 k1 k2
   refine ind_loop (fun t m h' n' => ∃ j : Nat, j ≤ i ∧ t = i - j ∧ m.n = 112 ∧ m.dfs = [] ∧ m.get 10 = pt n1 ∧ m.get 103 = I6 i ∧ m.get 104 = I6 j ∧ ∃ d' C', St h' n' d' C' ∧ d' (40, 0) = n1 ∧ RepR rep ops i (tcell ops d' (RS.begs ops (if kd = 3 then 16 else 13) (RS.zero s0) j)) (RS.begs ops (if kd = 3 then 16 else 13) (RS.zero s0) j) 0 d' C' ∧ ∀ a b, 60 ≤ a → d' (a, b) = d (a, b) ∧ C' (a, b) = C (a, b)) i ?_ ?_
   ·refine ⟨0, by omega, by omega, ?_⟩
    simp (maxSteps := 2000000) (disch := first | omega | assumption) only [go_sem, *]
    exact ⟨d7, C7, S7, h40, Z, hall7⟩
   ·clear S7 Z hall7 h40 m1 m2 m3 m4 m5 m6 m7 m8 m9 m10
    rintro t m h' n' ih ⟨j, hj, rfl, m1, m2, m3, m4, m5, d', C', S3, h40, Z, hall⟩
    obtain ⟨I, q1, q2, q3, q4, q5⟩ := begs_inv G Fe B.idle (ops := ops) (xp := if kd = 3 then 16 else 13) j
    rcases Nat.lt_or_ge j i with hlt | hge
    ·have e7 : (j : Int) < i := by omega
     have hci : ((j + 1 : Nat) : Int) = (j : Int) + 1 := by omega
     have en := rbegB ⟨ns1, ns2⟩ F G.fits hkind rfl ok S3 Z (t := j) ⟨fun u k hu _ hk => tcell_at hk, fun k hk _ _ _ => tcell_at hk⟩ hlt (q1 j (Nat.le_refl _)).1 (q1 j (Nat.le_refl _)).2 (by rw [q3]; exact Nat.zero_le _) (by omega)
     rw [h40] at en
     clear I q1 q2 q3 q4 q5
     repeat' first | simp (maxSteps := 2000000) (disch := first | omega | assumption) only [go_sem, *] | (apply xs <;> intro _) <;> try omega
     refine cal (en) (by simp only [*]) (by simp only [*]) (by simp only [go_sem, *]) (by simp only [go_sem, *]) ?_
     rintro r h4 n4 ⟨rfl, d4, C4, S4, R4, X4⟩
     clear en
     repeat' first | simp (maxSteps := 2000000) (disch := first | omega | assumption) only [go_sem, *] | (apply xs <;> intro _) <;> try omega
     refine ih (i - (j + 1)) _ _ _ (by omega) ⟨j + 1, by omega, rfl, ?_⟩
     rw [hci]
     clear ih
     simp (maxSteps := 2000000) (disch := first | omega | assumption) only [go_sem, *]
     exact ⟨d4, C4, S4, X4.m.trans h40, R4, fun a b c => ⟨(X4.x a b c).1.trans (hall a b c).1, (X4.x a b c).2.trans (hall a b c).2⟩⟩
    ·obtain rfl : j = i := by omega
     clear ih I q1 q2 q3 q4 q5
     repeat' first | simp (maxSteps := 2000000) (disch := first | omega | assumption) only [go_sem, *] | (apply xs <;> intro _) <;> try omega
     exact ⟨d', C', by rw [h40], S3, Z, hall⟩
end Go.Proofs.YtbceiadaihphaaaGreat
