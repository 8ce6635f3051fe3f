/-
  A part of the proof of the laws of layer 9: contracts of inner functions.
-/
import Derived.Test.YtakfjoelpploeaaL9P7
import Derived.Test.YtakfjoelpploeaaL9P8
set_option linter.unusedVariables false
set_option linter.unusedSimpArgs false
namespace Go.Proofs.Ytakfjoelpploeaa
open Go.Am

theorem rdL_mk {h : PT ABlk} {lb : Nat} {S : List Value} {ro : Bool} {hv tv : Value} {H T P : List Int} {V : Int} (hb : h.get lb = some (.cells (PT.ofList .leaf 0 S) ro)) (h27 : S[27]? = some hv) (h28 : S[28]? = some tv) (h29 : S[29]? = some (.int .i64 V))
    (hH : IsInts .i64 h hv H) (hT : IsInts .i64 h tv T) (hP : decInts .i64 ((S.drop 16).take 10) = some P) (h1 : H.length < 100000) (h2 : T.length = H.length) (h3 : S.length = 30) : (rdL (.pointer (some ⟨lb, 0, none⟩))).look h = some ⟨S, H, T, P, V⟩ := by
  unfold rdL
  simp only [AP.row, look_get, hb, rowB_row, h27, h28]
  rw [look_bind, hH.look, Option.bind_some, look_bind, hT.look, Option.bind_some, hP, h29]
  have e1 : Nat.blt H.length 100000 = true := Nat.ble_eq_true_of_le h1
  simp only [e1, h2, h3, show ∀ n, Nat.beq n n = true from Nat.beq_refl, Bool.and_self, cond_true, look_pure]

/-- Where the heads begin, of a new layout. -/
def p7Of (sl en bu lo : Int) (H : List Int) : Int := 0 + sl * 1 + 1 * engW en sl bu + 1 + lo * 3 + lo * 1 + 6 + (H.length : Int) * 1
/-- The places of a new layout: all ten. -/
def placesOf (sl en bu lo V : Int) (H : List Int) : List Int :=
  [0, 0 + sl * 1, 0 + sl * 1 + 1 * engW en sl bu, 0 + sl * 1 + 1 * engW en sl bu + 1, 0 + sl * 1 + 1 * engW en sl bu + 1 + lo * 3, 0 + sl * 1 + 1 * engW en sl bu + 1 + lo * 3 + lo * 1, 0 + sl * 1 + 1 * engW en sl bu + 1 + lo * 3 + lo * 1 + 6,
    p7Of sl en bu lo H, p7Of sl en bu lo H + V * 7, adrEnd (p7Of sl en bu lo H + V * 7) H]

theorem hts_length6 {t0 t1 t2 t3 t4 t5 : Int} (h : (0 ≤ t0 ∧ 0 ≤ t1 ∧ 0 ≤ t2 ∧ 0 ≤ t3 ∧ 0 ≤ t4 ∧ 0 ≤ t5) ∧ t0 + t1 + t2 + t3 + t4 + t5 ≤ 1024) : (hts 1 [t0, t1, t2, t3, t4, t5]).length ≤ 1024 := by
  simp [hts]; omega

theorem p7_bound {th sl en bu kd dn t0 t1 t2 t3 t4 t5 lo tr ba : Int} {xs : List Int} (h : cfgOk th sl en bu kd dn t0 t1 t2 t3 t4 t5 lo tr ba xs = true) : 12 ≤ p7Of sl en bu lo (hts 1 [t0, t1, t2, t3, t4, t5]) ∧ p7Of sl en bu lo (hts 1 [t0, t1, t2, t3, t4, t5]) ≤ 2000 := by
  obtain ⟨c1, ⟨c2, c2'⟩, ⟨c3, c3'⟩, ⟨c4, c4'⟩, ⟨c5, c5'⟩, c6, c12, c13⟩ := cfgOk_facts h
  have := hts_length6 ⟨c6, c12⟩
  obtain ⟨d5, d6⟩ := engW_bound (en := en) c3 c3' c4 c4'
  unfold p7Of
  omega

/-- A new layout, as it is read. -/
structure NewL (th sl en bu kd dn t0 t1 t2 t3 t4 t5 lo tr ba : Int) (xs : List Int) (h : PT ABlk) (lb : Nat) (l : LayV) (gb : Nat) (cv : Value) : Prop where
  ok : cfgOk th sl en bu kd dn t0 t1 t2 t3 t4 t5 lo tr ba xs = true
  look : (rdL (.pointer (some ⟨lb, 0, none⟩))).look h = some l
  V : l.V = domCount kd dn xs
  H : l.H = hts 1 [t0, t1, t2, t3, t4, t5]
  P : l.P = placesOf sl en bu lo (domCount kd dn xs) (hts 1 [t0, t1, t2, t3, t4, t5])
  T : l.T = adr (p7Of sl en bu lo (hts 1 [t0, t1, t2, t3, t4, t5]) + domCount kd dn xs * 7) (hts 1 [t0, t1, t2, t3, t4, t5])
  cuts : IsInts .u64 h cv xs

theorem layNewL {O : Over} (o16 : O 16 = layCheckS) (o46 : O 46 = engineS) (o44 : O 44 = valuesS) (o45 : O 45 = placeS) (o43 : ∀ a, O 43 a = none) (th sl en bu kd dn t0 t1 t2 t3 t4 t5 lo tr ba : Int) (s : Value) (xs : List Int) (h : PT ABlk) (N : Nat) (hW : WfH h N) (hs : IsInts .u64 h s xs) (hl : xs.length < 1000000000000000) :
    EvB Try.prog O 14 [.agg ⟨[.int .i64 th, .int .i64 sl, .int .u8 en, .int .i64 bu, .int .u8 kd, .int .i64 dn, s, .int .i64 t0, .int .i64 t1, .int .i64 t2, .int .i64 t3, .int .i64 t4, .int .i64 t5, .int .i64 lo, .int .i64 tr, .int .i64 ba]⟩] h N
      fun v h' n' => (cfgOk th sl en bu kd dn t0 t1 t2 t3 t4 t5 lo tr ba xs = false ∧ v = .tuple ⟨[.pointer none, .int .i64 2]⟩ ∧ Kept h h') ∨
        ∃ lb l gb cv, v = .tuple ⟨[.pointer (some ⟨lb, 0, none⟩), .int .i64 0]⟩ ∧ Kept h h' ∧ N ≤ lb ∧ NewL th sl en bu kd dn t0 t1 t2 t3 t4 t5 lo tr ba xs h' lb l gb cv := by
  refine (layNew o16 o46 o44 o45 o43 th sl en bu kd dn t0 t1 t2 t3 t4 t5 lo tr ba s xs h N hW hs hl).mono ?_
  rintro v h' n' (⟨e1, e2, e3⟩ | ⟨e1, lb, cv, hv, tv, gb, rfl, hk, hN, hb, hg, hcv, hH, hT⟩)
  · exact .inl ⟨e1, e2, e3⟩
  · have hf := cfgOk_facts e1
    have hlen := hts_length6 ⟨hf.2.2.2.2.2.1, hf.2.2.2.2.2.2.1⟩
    refine .inr ⟨lb, _, gb, cv, rfl, hk, hN, e1, rdL_mk hb rfl rfl rfl hH hT (decInts_map (xs := placesOf sl en bu lo (domCount kd dn xs) (hts 1 [t0, t1, t2, t3, t4, t5]))) (by omega) (adr_length _ _) rfl, rfl, rfl, rfl, rfl, hcv⟩
end Go.Proofs.Ytakfjoelpploeaa
