/-
  The abstract machine: a function that collects the keys of a map, in whatever order, and sorts them: what it gives is told of the map alone.
-/
import Derived.Test.YtbifkkhmfojlpaaGreatAmX7
import Derived.Lib.SlKeysI
import Derived.Maps.Range
set_option linter.unusedVariables false
set_option linter.unusedSimpArgs false
namespace Go.Am
open Go.RowKit Go.Maps

def keysE : List (Value × Value × Nat) → Option (List Int)
  | [] => some []
  | e :: r => match e.1, e.2.1 with
    | .int .i64 x, .bool _ => match keysE r with
      | some l => some (x :: l)
      | none => none
    | _, _ => none

def ndN : List Nat → Bool
  | [] => true
  | x :: l => !(l.any (Nat.beq x)) && ndN l
def ndI : List Int → Bool
  | [] => true
  | x :: l => !(l.any fun y => decide (x = y)) && ndI l
theorem ndN_nodup : ∀ {l : List Nat}, ndN l = true → l.Nodup
  | [], _ => List.nodup_nil
  | x :: l, h => by
    simp only [ndN, Bool.and_eq_true, Bool.not_eq_true', List.any_eq_false] at h
    refine List.nodup_cons.2 ⟨fun hx => h.1 x hx (Nat.beq_refl x), ndN_nodup h.2⟩
theorem ndI_nodup : ∀ {l : List Int}, ndI l = true → l.Nodup
  | [], _ => List.nodup_nil
  | x :: l, h => by
    simp only [ndI, Bool.and_eq_true, Bool.not_eq_true', List.any_eq_false, decide_eq_true_eq] at h
    refine List.nodup_cons.2 ⟨fun hx => h.1 x hx rfl, ndI_nodup h.2⟩

def insI (x : Int) : List Int → List Int
  | [] => [x]
  | y :: r => cond (decide (x ≤ y)) (x :: y :: r) (y :: insI x r)
def isort : List Int → List Int
  | [] => []
  | x :: r => insI x (isort r)
theorem insI_perm (x : Int) : ∀ l : List Int, (insI x l).Perm (x :: l)
  | [] => .refl _
  | y :: r => by
    unfold insI
    cases decide (x ≤ y) with
    | true => exact .refl _
    | false => exact ((insI_perm x r).cons y).trans (.swap _ _ _)
theorem isort_perm : ∀ l : List Int, (isort l).Perm l
  | [] => .refl _
  | x :: r => (insI_perm x _).trans ((isort_perm r).cons x)
theorem insI_sorted (x : Int) : ∀ {l : List Int}, l.Pairwise (· ≤ ·) → (insI x l).Pairwise (· ≤ ·)
  | [], _ => by simp [insI]
  | y :: r, h => by
    obtain ⟨h1, h2⟩ := List.pairwise_cons.1 h
    unfold insI
    cases hd : decide (x ≤ y) with
    | true =>
      have hd := of_decide_eq_true hd
      refine List.pairwise_cons.2 ⟨fun z hz => ?_, h⟩
      rcases List.mem_cons.1 hz with rfl | hz
      · exact hd
      · exact Int.le_trans hd (h1 z hz)
    | false =>
      have hd := of_decide_eq_false hd
      refine List.pairwise_cons.2 ⟨fun z hz => ?_, insI_sorted x h2⟩
      rcases List.mem_cons.1 ((insI_perm x r).mem_iff.1 hz) with rfl | hz
      · omega
      · exact h1 z hz
theorem isort_sorted : ∀ l : List Int, (isort l).Pairwise (· ≤ ·)
  | [] => by simp [isort]
  | x :: r => insI_sorted x (isort_sorted r)
theorem isort_eq {l ss : List Int} (h : ss.Perm l) : ss.mergeSort leI = isort l := by
  have tr : ∀ a b c : Int, leI a b = true → leI b c = true → leI a c = true := fun a b c h1 h2 => by simp only [leI, decide_eq_true_eq] at *; exact Int.le_trans h1 h2
  have to : ∀ a b : Int, (leI a b || leI b a) = true := fun a b => by simp only [leI, Bool.or_eq_true, decide_eq_true_eq]; exact Int.le_total a b
  refine List.Perm.eq_of_pairwise (le := fun a b => leI a b = true) (fun a b _ _ h1 h2 => ?_) (List.pairwise_mergeSort tr to ss) ((isort_sorted l).imp fun h => by simpa [leI] using h) ((List.mergeSort_perm ss leI).trans (h.trans (isort_perm l).symm))
  simp only [leI, decide_eq_true_eq] at h1 h2
  exact Int.le_antisymm h1 h2

def okE (es : List (Value × Value × Nat)) (clk : Nat) (ks : List Int) : Bool :=
  ks.all (fun x => (Lit.int .i64 x).wf) && ndI ks && es.all (fun e => Nat.blt e.2.2 clk) && ndN (es.map (·.2.2)) && Nat.ble es.length 1000000

def outR (l : List Int) : AP Value :=
  match l with
  | [] => .pure (.slice none 0 0)
  | l => .new (.cells (PT.ofList .leaf 0 (l.map (.int .i64))) false) fun id => .pure (.slice (some ⟨id, 0, none⟩) l.length (capInf + 1))

def outM (a : Addr) : AP Value :=
  .get a.block fun
    | .cells c _ => match c.get (a.off + 4) with
      | some (.map (some r)) => .get r fun
        | .map es clk => match keysE es with
          | some ks => cond (okE es clk ks) (outR (isort ks)) (.fail "out")
          | none => .fail "out"
        | _ => .fail "out"
      | _ => .fail "out"
    | _ => .fail "out"

def outS : List Value → Option (AP Value)
  | [.pointer (some a)] => some (outM a)
  | _ => none

theorem int_rel {Γ : Emb} {k : IntKind} {x : Int} {v : Value} (h : VRel Γ (.int k x) v) : v = .int k x := by cases h; rfl
theorem bool_rel {Γ : Emb} {x : Bool} {v : Value} (h : VRel Γ (.bool x) v) : v = .bool x := by cases h; rfl
theorem keysE_rel {Γ : Emb} : ∀ {es : List (Value × Value × Nat)} {L : List MapEntry} {ks : List Int}, PRels Γ es L → keysE es = some ks → L.map (·.key) = ks.map (Value.int .i64) ∧ (∀ e ∈ L, ∃ b, e.val = .bool b) ∧ L.map (·.born) = es.map (·.2.2) ∧ ks.length = es.length
  | _, _, ks, .nil, h => by
    simp only [keysE, Option.some.injEq] at h
    subst h; simp
  | _, _, ks, .cons p e l l' hk hv hb t, h => by
    obtain ⟨pk, pv, pb⟩ := p
    simp only [keysE] at h
    split at h
    · rename_i x b
      split at h
      · rename_i ks' hks
        simp only [Option.some.injEq] at h
        subst h
        obtain ⟨h1, h2, h3, h4⟩ := keysE_rel t hks
        have ek : e.key = .int .i64 x := int_rel hk
        have ev : e.val = .bool b := bool_rel hv
        refine ⟨by simp [h1, ek], fun y hy => ?_, by simp [h3, ← hb], by simp [h4]⟩
        rcases List.mem_cons.1 hy with rfl | hy
        · exact ⟨b, ev⟩
        · exact h2 y hy
      · simp at h
    · simp at h

open Go.WideElems (Fit rd rg rg_of rd_mk) in
theorem outF {P : Program} {f : FuncId} {kT bT : TypeId} (hk : P.underlying kT = some (.int .i64)) (hb : P.underlying bT = some .bool)
    (hwalk : ∀ (pb o r n : Nat) (D0 : DataW Unit) (w : World), w.cell? ⟨pb, o + 4, none⟩ = some (.map (some r)) → pb < w.heap.size → w.ownsMap P kT (plainElem P bT) r n D0 → Maps.size D0 ≤ 1000000 →
      CallsIn Fence.wide 0 P f #[.pointer (some ⟨pb, o, none⟩)] w fun e w' => ∃ (v : Value) (ss : List Int), e = .returned v ∧ (∃ left, CollectedI D0 left ss ∧ ∀ kl, left kl = false) ∧ (ss = [] → v = .slice none 0 0) ∧
        w'.ownsRow w.heap.size kT 1 v ss.length ((ss.mergeSort (fun x y => decide (x ≤ y))).map (Value.int .i64)) ∧ RowKit.Below w.heap.size w w') : SoundF P f outS := by
  intro args m hm Γ W w h n lim rd' wr args' v s' ha hS hr hfree
  unfold outS at hm
  split at hm
  case h_2 => simp at hm
  case h_1 a =>
  simp only [Option.some.injEq] at hm
  subst hm
  have hr0 := run_any lim _ h n rd' wr v s' hr
  clear hr
  have hbl : ∀ i, Nat.blt i 0 = false := fun i => rfl
  have hhp : (S0 h n).heap = h := rfl
  unfold outM at hr0
  simp only [AP.run, hbl, hhp, cond_false] at hr0
  cases hB : h.get a.block with
  | none => rw [hB] at hr0; simp at hr0
  | some B =>
  rw [hB] at hr0
  simp only at hr0
  cases B with
  | map es clk => simp [AP.run] at hr0
  | iter _ _ _ _ => simp [AP.run] at hr0
  | loop _ _ _ _ _ _ => simp [AP.run] at hr0
  | deferred => simp [AP.run] at hr0
  | cells c ro =>
  simp only at hr0
  split at hr0
  case h_2 => simp [AP.run] at hr0
  case h_1 r hcell =>
  simp only [AP.run, hbl, hhp, cond_false] at hr0
  cases hC : h.get r with
  | none => rw [hC] at hr0; simp at hr0
  | some C =>
  rw [hC] at hr0
  simp only at hr0
  cases C with
  | cells _ _ => simp [AP.run] at hr0
  | iter _ _ _ _ => simp [AP.run] at hr0
  | loop _ _ _ _ _ _ => simp [AP.run] at hr0
  | deferred => simp [AP.run] at hr0
  | map es clk =>
  simp only at hr0
  cases hks : keysE es with
  | none => rw [hks] at hr0; simp [AP.run] at hr0
  | some ks =>
  rw [hks] at hr0
  simp only at hr0
  cases hok : okE es clk ks with
  | false => rw [hok] at hr0; simp [AP.run] at hr0
  | true =>
  rw [hok] at hr0
  simp only [cond_true] at hr0
  simp only [okE, Bool.and_eq_true, List.all_eq_true] at hok
  obtain ⟨⟨⟨⟨k1, k2⟩, k3⟩, k4⟩, k5⟩ := hok
  have k2 := ndI_nodup k2
  have k4 := ndN_nodup k4
  have k5 : es.length ≤ 1000000 := Nat.le_of_ble_eq_true k5
  cases ha with
  | cons _ _ _ _ hp ht =>
  cases ht
  cases hp with
  | ptr _ a' hadr =>
  obtain ⟨s, eb, hoff, hBR, _⟩ := hS.block hB hadr rfl
  obtain ⟨cs, el, fz, g1, g2, g3⟩ := hBR
  obtain ⟨v', q1, q2⟩ := g3 _ _ hcell
  cases q2 with
  | map _ r' hr' =>
  have hcw : w.cell? ⟨a'.block, a'.off + 4, none⟩ = some (.map (some r')) := by
    rw [cell?_of_heap (a := ⟨a'.block, a'.off + 4, none⟩) rfl g1, show a'.off + 4 = s + (a.off + 4) by omega]; exact q1
  obtain ⟨b, s1, e1, hBM, _⟩ := hS.live _ _ hC
  rw [hr'] at e1
  simp only [Option.some.injEq, Prod.mk.injEq] at e1
  obtain ⟨rfl, rfl⟩ := e1
  obtain ⟨-, ents, m1, m2⟩ := hBM
  obtain ⟨f1, f2, f3, f4⟩ := keysE_rel m2 hks
  have hkey : ∀ e ∈ ents.toList, ∃ x ∈ ks, e.key = .int .i64 x := by
    intro e he
    have : e.key ∈ ents.toList.map (·.key) := List.mem_map.2 ⟨e, he, rfl⟩
    rw [f1] at this
    obtain ⟨x, hx, hxe⟩ := List.mem_map.1 this
    exact ⟨x, hx, hxe.symm⟩
  have hkey2 : ∀ x ∈ ks, ∃ e ∈ ents.toList, e.key = .int .i64 x := by
    intro x hx
    have : Value.int .i64 x ∈ ks.map (Value.int .i64) := List.mem_map.2 ⟨x, hx, rfl⟩
    rw [← f1] at this
    obtain ⟨e, he, hxe⟩ := List.mem_map.1 this
    exact ⟨e, he, hxe⟩
  have hrd : ∀ e ∈ ents.toList, ∃ x b, x ∈ ks ∧ e.key = .int .i64 x ∧ rd (H := Unit) P kT (plainElem P bT) e = some (.int .i64 x, .lit (.bool b)) := by
    intro e he
    obtain ⟨x, hx, hxe⟩ := hkey e he
    obtain ⟨b, hbv⟩ := f2 e he
    refine ⟨x, b, hx, hxe, ?_⟩
    obtain ⟨ek, ev, eb⟩ := e
    simp only at hxe hbv
    subst hxe hbv
    exact rd_mk (keyOf_int_mk hk (k1 x hx)) (plainElem_bool hb b)
  have hsz : ents.size ≤ 1000000 := by
    have := m2.length
    simp at this; omega
  have F : Fit (H := Unit) P kT (plainElem P bT) ents clk := by
    refine ⟨by unfold maxLen; omega, ⟨fun x hx => ?_, ?_, ?_⟩, fun x hx => ?_⟩
    · have : x.born ∈ ents.toList.map (·.born) := List.mem_map.2 ⟨x, hx, rfl⟩
      rw [f3] at this
      obtain ⟨e, he, hxe⟩ := List.mem_map.1 this
      have := Nat.blt_eq.mp (k3 e he)
      omega
    · rw [f3]; exact k4
    · rw [f1]
      exact List.Pairwise.map _ (fun a b h e => h (by simpa using e)) k2
    · obtain ⟨y, b, _, _, e⟩ := hrd x hx
      exact ⟨_, e⟩
  have hown : w.ownsMap P kT (plainElem P bT) r' ents.size (.map ((ents.toList.map (rg (H := Unit) P kT (plainElem P bT))).foldr DataW.insert [])) := ⟨ents, clk, m1, F, Nat.le_refl _, rfl⟩
  have hsize : Maps.size (DataW.map ((ents.toList.map (rg (H := Unit) P kT (plainElem P bT))).foldr DataW.insert [])) ≤ 1000000 := by
    rw [size_eq, length_sorted]; simpa using hsz
  have hhas : ∀ x, has (DataW.map ((ents.toList.map (rg (H := Unit) P kT (plainElem P bT))).foldr DataW.insert [])) (.int .i64 x) = true ↔ x ∈ ks := by
    intro x
    rw [has_eq, List.any_eq_true]
    constructor
    · rintro ⟨p, hp, hs⟩
      obtain ⟨e, he, rfl⟩ := List.mem_map.1 (Go.mem_sorted.1 hp)
      obtain ⟨y, b, hy, _, hrg⟩ := hrd e he
      rw [rg_of hrg] at hs
      have := WideAt.sameKey_eq hs
      simp only [Lit.int.injEq, true_and] at this
      rw [← this]; exact hy
    · intro hx
      obtain ⟨e, he, hxe⟩ := hkey2 x hx
      refine ⟨_, Go.mem_sorted.2 (List.mem_map.2 ⟨e, he, rfl⟩), ?_⟩
      obtain ⟨y, b, hy, hye, hrg⟩ := hrd e he
      rw [rg_of hrg]
      rw [hxe] at hye
      simp only [Value.int.injEq, true_and] at hye
      subst hye
      exact WideAt.sameKey_self trivial
  have ha' : a' = ⟨a'.block, a'.off, none⟩ := by
    have := hadr.spot'
    cases a'; simp only at this; rw [this]
  have hlt : a'.block < w.heap.size := hS.dom _ _ _ eb
  rw [ha']
  refine (hwalk a'.block a'.off r' ents.size _ w hcw hlt hown hsize).mono ?_
  rintro e w' ⟨v2, ss, rfl, ⟨left, ⟨c1, c2⟩, hl⟩, hnil, hrow, hbel⟩
  have hperm : ss.Perm ks := by
    refine (List.perm_ext_iff_of_nodup c1 k2).2 fun x => ?_
    rw [c2 x, hl, hhas x]; simp
  have hso := isort_eq hperm
  have hlen : (isort ks).length = ss.length := by rw [← hso]; simp
  have hrow : w'.ownsRow w.heap.size kT 1 v2 ss.length ((isort ks).map (Value.int .i64)) := by rw [← hso]; exact hrow
  have hsame : ∀ i, i < w.heap.size → w'.heap[i]? = w.heap[i]? := hbel.block
  have hS' : SRel Γ W h w' := by
    refine ⟨⟨hbel.os.trans hS.below.os, hbel.tape.trans hS.below.tape, hbel.output.trans hS.below.output, Nat.le_trans hS.below.size hbel.size, fun i hi => (hsame i (Nat.lt_of_lt_of_le hi hS.below.size)).trans (hS.below.block i hi)⟩, fun a ha => ?_, fun i B hi => ?_, hS.disj, fun i b s e => Nat.lt_of_lt_of_le (hS.dom i b s e) hbel.size, fun b n e => ?_, hS.fin, hS.rows⟩
    · rw [← hS.fz a ha]
      exact World.frozen?_of_block (hsame _ (Nat.lt_of_lt_of_le ha hS.below.size))
    · obtain ⟨b, s, e, r, hw⟩ := hS.live i B hi
      exact ⟨b, s, e, r.world (hsame b (hS.dom i b s e)), hw⟩
    · obtain ⟨c, el, fz, h1, h2⟩ := hS.siz b n e
      exact ⟨c, el, fz, (hsame b (lt_of_heap h1)).trans h1, h2⟩
  unfold outR at hr0
  split at hr0
  · rename_i hemp
    simp only [AP.run, Res.ok.injEq, S0, HS.mk.injEq] at hr0
    obtain ⟨rfl, h5, h6, -⟩ := hr0
    have : ss = [] := by rw [hemp] at hlen; exact List.length_eq_zero_iff.1 hlen.symm
    rw [hnil this]
    exact ⟨Γ, _, rfl, .refl _, by rw [← h5]; exact hS', fun _ _ => rfl, .nilslice _ _⟩
  · rename_i hne
    simp only [AP.run, Res.ok.injEq] at hr0
    obtain ⟨rfl, hs'⟩ := hr0
    have h5 : h.set n (some (.cells (PT.ofList .leaf 0 ((isort ks).map (.int .i64))) false)) = s'.heap := congrArg HS.heap hs'
    have h6 : Nat.succ n = s'.next := congrArg HS.next hs'
    rcases hrow.2 with ⟨_, hz⟩ | ⟨g, cap, cur, rfl, hbase, hbk, h1, h2, h3, h4⟩
    · exact absurd (List.length_eq_zero_iff.1 (hlen.trans hz)) (by simpa using hne)
    · have hgl : g < w'.heap.size := lt_of_heap hbk
      let Γ1 : Emb := ⟨Γ.blk, fun b => if b = g then some cur.size else Γ.siz b⟩
      have hle1 : Γ.le Γ1 := by
        refine ⟨fun i x e => e, fun b m e => ?_⟩
        show (if b = g then some cur.size else Γ.siz b) = some m
        have : b ≠ g := by
          intro e2
          subst e2
          obtain ⟨c, el, fz, q, _⟩ := hS.siz _ _ e
          have := lt_of_heap q
          omega
        rw [if_neg this]; exact e
      have hS1 : SRel Γ1 W h w' := by
        refine ⟨hS'.below, hS'.fz, fun i B hi => ?_, hS'.disj, hS'.dom, fun b m e => ?_, hS'.fin, hS'.rows⟩
        · obtain ⟨b, s, e, r, hw⟩ := hS'.live i B hi
          exact ⟨b, s, e, r.mono hle1, hw⟩
        · simp only [Γ1] at e
          split at e
          · rename_i hbg
            simp only [Option.some.injEq] at e
            subst hbg
            exact ⟨cur, kT, (0, 0), hbk, e⟩
          · exact hS'.siz b m e
      have hn : Γ1.blk n = none := hfree n (Nat.le_refl _) (by omega)
      obtain ⟨Γ2, hst, hb2, hS2⟩ := hS1.view hn ((isort ks).map (Value.int .i64)) (b := g) (s := 0) (cs := cur) (el := kT) hbk (Nat.le_trans hS.below.size hbase) (fun j B b' s' hj e hbg => by
        have : b' < w.heap.size := hS.dom _ _ _ e
        omega) (fun i v hv => by
        have hi : i < ss.length := by
          have := (List.getElem?_eq_some_iff.1 hv).1
          simp at this; omega
        have h4' : (cur.toList.take (ss.length * 1))[i]? = ((isort ks).map (Value.int .i64))[i]? := by rw [h4]
        rw [List.getElem?_take_of_lt (by omega), Array.getElem?_toList] at h4'
        refine ⟨v, by rw [Nat.zero_add, h4', hv], ?_⟩
        rw [List.getElem?_map] at hv
        cases hx : (isort ks)[i]? with
        | none => rw [hx] at hv; simp at hv
        | some x => rw [hx] at hv; simp only [Option.map_some, Option.some.injEq] at hv; subst hv; exact .int _ _)
      have hle2 : Γ.le Γ2 := hle1.trans hst.le
      refine ⟨Γ2, _, rfl, hle2, by rw [← h5]; exact hS2, fun i hi => ?_, ?_⟩
      · exact hst.2 i (by omega)
      · rw [hlen]
        refine .slice _ _ _ _ _ (.inl ⟨rfl, rfl, 0, hb2, rfl⟩) ?_
        unfold Emb.cap
        rw [if_pos (by unfold capInf; omega)]
        refine ⟨h1, cur.size, hst.le.siz _ _ (by simp [Γ1]), ?_⟩
        show 0 + cap * (capInf + 1 - capInf) ≤ cur.size
        rw [h3, Nat.add_sub_cancel_left]; omega
end Go.Am
