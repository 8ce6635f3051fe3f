/-
  The abstract machine: the operations' simulations: maps, len, cap, copy, min, max; receivers and methods; the call's target.
-/
import Derived.Test.YtbceiadaihphaaaGreatAmL
set_option linter.unusedSimpArgs false
set_option linter.unusedVariables false
namespace Go.Am
open Go.RowKit
section
variable {P : Program} {Γ : Emb} {W w : World} {h : PT ABlk} {n : Nat}
theorem aMakeMap_sim {t : TypeId} {v v' : Option Value} (hv : ORel Γ v v') : Sim P Γ (aMakeMap P t v) (Instr.makeMap t v') VRel := by
 intro W h n w hS
 have key : ∀ e : Sem Value, e.run P w = .ok (.map (some w.heap.size)) (w.alloc (.map #[] 0)) → SimAt P Γ W h n w (.new (.map [] 0) fun id => .pure (.map (some id))) e VRel := by
  intro e he
  refine SimAt.new fun hn => ?_
  obtain ⟨Γ', hst, hb, hS'⟩ := hS.allocOther hn (.map #[] 0) (.map [] 0) rfl (fun Γ' w' _ h1 => ⟨rfl, #[], h1, .nil⟩)
  exact ⟨Γ', _, pure (.map (some w.heap.size)), hst, he, SimAt.ok hS' rfl (.map _ _ hb)⟩
 unfold aMakeMap
 cases hv with
 | no => exact key _ (by simp [Instr.makeMap])
 | yes a b hab =>
  dsimp only
  split
  ·rename_i k e kd i hd
   cases hab
   exact key _ (by simp [Instr.makeMap, run_und hd, asInt, asIntOf])
  ·exact SimAt.fail
theorem sameNow_rel {d : TypeDesc} {k e k' e' : Value} (hk : VRel Γ k k') (he : VRel Γ e e') {b : Bool} (h : Instr.sameNow d k e = some b) : Instr.sameNow d k' e' = some b := by
 unfold Instr.sameNow at h
 split at h
 ·cases hk; cases he; exact h
 ·cases hk; cases he; exact h
 ·cases hk; cases he; exact h
 ·simp at h
theorem findPair_sim {d : TypeDesc} {k k' : Value} (hk : VRel Γ k k') : ∀ (es : List (Value × Value × Nat)) (ents : List MapEntry) (i : Nat) (r : Option (Nat × Value)), PRels Γ es ents → findPair d k es i = some r →
  (r = none ∧ Instr.findNow d k' ents i = some none) ∨ (∃ j v v' e, r = some (i + j, v) ∧ Instr.findNow d k' ents i = some (some (i + j, v')) ∧ VRel Γ v v' ∧ ents[j]? = some e ∧ Instr.sameNow d k' e.key = some true)
 | [], ents, i, r, hp, h => by
  cases hp
  simp only [findPair, Option.some.injEq] at h
  exact .inl ⟨h.symm, rfl⟩
 | p :: es, ents, i, r, hp, h => by
  cases hp with
  | cons _ e _ ents hkk hvv hbb ht =>
   simp only [findPair] at h
   split at h
   ·rename_i hs
    have hs' := sameNow_rel hk hkk hs
    refine .inr ⟨0, p.2.1, e.val, e, by simpa using h.symm, ?_, hvv, rfl, hs'⟩
    simp [Instr.findNow, hs']
   ·rename_i hs
    have hs' := sameNow_rel hk hkk hs
    rcases findPair_sim hk es ents (i + 1) r ht h with ⟨h1, h2⟩ | ⟨j, v, v', e', h1, h2, h3, h4, h5⟩
    ·exact .inl ⟨h1, by simp [Instr.findNow, hs', h2]⟩
    ·refine .inr ⟨j + 1, v, v', e', by rw [h1]; congr 2; omega, ?_, h3, by simpa using h4, h5⟩
     simp only [Instr.findNow, hs', h2]
     congr 3; omega
   ·simp at h
theorem checkKey_run {kt : TypeId} {kd : TypeDesc} (hd : P.underlying kt = some kd) (hs : simpleKey kd = true) (empty : Bool) (m : Nat) (v : Value) (w : World) : (Instr.checkKey empty (m + 1) kt v).run P w = .ok () w := by
 cases kd <;> first | (simp [simpleKey] at hs; done) | simp [Instr.checkKey, run_und hd]
theorem forIn_unit {l : List Field} (body : Field → PUnit → Sem (ForInStep PUnit)) (hb : ∀ f ∈ l, ∀ w, (body f ⟨⟩).run P w = .ok (.yield ⟨⟩) w) (w : World) : (forIn l (⟨⟩ : PUnit) body : Sem PUnit).run P w = .ok ⟨⟩ w := by
 induction l with
 | nil => simp
 | cons f l ih =>
  rw [List.forIn_cons]
  simp only [Sem.run_bind, hb f List.mem_cons_self, Result.andThen_ok]
  exact ih fun f hf => hb f (List.mem_cons_of_mem _ hf)
theorem checkKey_ok {kt : TypeId} {kd : TypeDesc} {k k' : Value} (hk : VRel Γ k k') (hd : P.underlying kt = some kd) (hs : keyOk P kt kd k = true) (empty : Bool) (w : World) : (Instr.checkKey empty 10000 kt k').run P w = .ok () w := by
 unfold keyOk at hs
 split at hs
 ·rename_i fs cs
  cases hk with
  | agg l l' hl =>
   simp only [Bool.and_eq_true] at hs
   have hf := hs.2
   unfold flatKey at hf
   rw [List.all_eq_true] at hf
   rw [show (10000 : Nat) = 9998 + 1 + 1 from rfl, Instr.checkKey]
   simp only [Sem.run_bind, run_und hd, Result.andThen_ok]
   rw [← Array.forIn_toList]
   rw [forIn_unit (P := P) _ ?_ w]
   ·simp
   ·intro f hfm w
    have := hf f hfm
    split at this
    ·rename_i d v h1 h2
     obtain ⟨v', hp, -⟩ := part_sim hl h2
     by_cases hn : f.name = "_"
     ·simp [hn]
     ·simp [hn, hp, checkKey_run h1 this]
    ·simp at this
 ·exact checkKey_run hd hs empty 9999 k' w
theorem equalIn_now {D : Nat} {t : TypeId} {d : TypeDesc} {a b : Value} {q : Bool} (hd : P.underlying t = some d) (h : Instr.sameNow d a b = some q) (w : World) : (Op.equalIn (D + 1) t a b).run P w = .ok q w := by
 unfold Instr.sameNow at h
 split at h
 ·split at h
  ·rename_i hk
   subst hk
   simp only [Option.some.injEq] at h
   subst h
   simp [Op.equalIn, run_und hd]
  ·simp at h
 ·simp only [Option.some.injEq] at h
  subst h
  simp [Op.equalIn, run_und hd]
 ·simp only [Option.some.injEq] at h
  subst h
  simp [Op.equalIn, run_und hd]
 ·simp at h
theorem eqFlat_run (D : Nat) {xs ys xs' ys' : List Value} (hx : VRels Γ xs xs') (hy : VRels Γ ys ys') : ∀ (fs : List Field) (b : Bool), eqFlat P xs ys fs = some b → ∀ w, (Op.eqFields (D + 1) ⟨xs'⟩ ⟨ys'⟩ fs).run P w = .ok b w
 | [], b, h, w => by
  simp only [eqFlat, Option.some.injEq] at h
  subst h
  simp [Op.eqFields]
 | f :: fs, b, h, w => by
  unfold eqFlat at h
  unfold Op.eqFields
  split at h
  ·rename_i hn
   split at h
   ·rename_i d p q hd hp hq
    obtain ⟨p', hrp, hvp⟩ := part_sim hx hp
    obtain ⟨q', hrq, hvq⟩ := part_sim hy hq
    split at h
    ·rename_i hs
     have := equalIn_now (D := D) hd (sameNow_rel hvp hvq hs) w
     have ih := eqFlat_run D hx hy fs b h w
     simp [hn, hrp, hrq, this, ih]
    ·rename_i hs
     have := equalIn_now (D := D) hd (sameNow_rel hvp hvq hs) w
     simp only [Option.some.injEq] at h
     subst h
     simp [hn, hrp, hrq, this]
    ·simp at h
   ·simp at h
  ·rename_i hn
   have ih := eqFlat_run D hx hy fs b h w
   have hn' : f.name = "_" := by simpa using hn
   simp [hn', ih]
theorem findFlat_sim {kt : TypeId} {fs : Array Field} {xs xs' : List Value} (hd : P.underlying kt = some (.struct fs)) (hst : P.stoodInHeld kt = false) (hx : VRels Γ xs xs') : ∀ (es : List (Value × Value × Nat)) (ents : List MapEntry) (i : Nat) (r : Option (Nat × Value)), PRels Γ es ents → findFlat P fs.toList xs es i = some r →
  (r = none ∧ ∀ w, (Instr.findAsking kt (.agg ⟨xs'⟩) ents i).run P w = .ok none w) ∨ (∃ j v v' e, r = some (i + j, v) ∧ (∀ w, (Instr.findAsking kt (.agg ⟨xs'⟩) ents i).run P w = .ok (some (i + j, v')) w) ∧ VRel Γ v v' ∧ ents[j]? = some e)
 | [], ents, i, r, hp, h => by
  cases hp
  simp only [findFlat, Option.some.injEq] at h
  exact .inl ⟨h.symm, fun w => by simp [Instr.findAsking]⟩
 | p :: es, ents, i, r, hp, h => by
  cases hp with
  | cons _ e _ ents hkk hvv hbb ht =>
   simp only [findFlat] at h
   split at h
   ·rename_i ys hpe
    rw [hpe] at hkk
    cases hek : e.key with
    | agg ys' =>
     rw [hek] at hkk
     obtain ⟨yl⟩ := ys'
     obtain ⟨ysl⟩ := ys
     cases hkk with
     | agg _ _ hy =>
      have hfo : P.fieldsOf kt = fs := by simp [Program.fieldsOf, hd]
      have hrun : ∀ b, eqFlat P xs ysl fs.toList = some b → ∀ w, (Op.equal kt (.agg ⟨xs'⟩) e.key).run P w = .ok b w := fun b hb w => by
       have := eqFlat_run 9998 hx hy fs.toList b hb w
       rw [hek, show Op.equal kt (.agg ⟨xs'⟩) (.agg ⟨yl⟩) = Op.equalIn (9999 + 1) kt (.agg ⟨xs'⟩) (.agg ⟨yl⟩) from rfl, run_equalIn_struct w 9999 kt _ _ (by rw [hfo]; exact hd) hst, hfo]
       exact this
      split at h
      ·rename_i hs
       refine .inr ⟨0, p.2.1, e.val, e, by simpa using h.symm, fun w => ?_, hvv, rfl⟩
       simp [Instr.findAsking, hrun _ hs]
      ·rename_i hs
       rcases findFlat_sim hd hst hx es ents (i + 1) r ht h with ⟨h1, h2⟩ | ⟨j, v, v', e', h1, h2, h3, h4⟩
       ·exact .inl ⟨h1, fun w => by simp [Instr.findAsking, hrun _ hs, h2]⟩
       ·refine .inr ⟨j + 1, v, v', e', by rw [h1]; congr 2; omega, fun w => ?_, h3, by simpa using h4⟩
        rw [show i + (j + 1) = i + 1 + j by omega]
        simp only [Instr.findAsking, Sem.run_bind, hrun _ hs, Result.andThen_ok, h2, Bool.false_eq_true, if_false]
      ·simp at h
    | _ => rw [hek] at hkk; cases hkk
   ·simp at h
theorem findKeyA_sim {kt : TypeId} {kd : TypeDesc} {k k' : Value} (hk : VRel Γ k k') (hd : P.underlying kt = some kd) (hs : keyOk P kt kd k = true) {es : List (Value × Value × Nat)} {ents : List MapEntry} {r : Option (Nat × Value)} (hp : PRels Γ es ents) (h : findKeyA P kd k es 0 = some r) :
  (r = none ∧ ∀ w, (Instr.findKey kt k' ents).run P w = .ok none w) ∨ (∃ j v v' e, r = some (j, v) ∧ (∀ w, (Instr.findKey kt k' ents).run P w = .ok (some (j, v')) w) ∧ VRel Γ v v' ∧ ents[j]? = some e ∧ (simpleKey kd = true → Instr.sameNow kd k' e.key = some true)) := by
 unfold findKeyA at h
 unfold keyOk at hs
 split at h
 ·rename_i fs cs
  cases hk with
  | agg l l' hl =>
   simp only [Bool.and_eq_true, Bool.not_eq_true'] at hs
   have hfk : ∀ w, (Instr.findKey kt (.agg ⟨l'⟩) ents).run P w = (Instr.findAsking kt (.agg ⟨l'⟩) ents 0).run P w := fun w => by
    unfold Instr.findKey
    simp only [Sem.run_bind, run_und hd, Result.andThen_ok]
    cases ents with
    | nil => simp [Instr.findNow, Instr.findAsking]
    | cons e es => simp [Instr.findNow, Instr.sameNow]
   rcases findFlat_sim hd hs.1 hl es ents 0 r hp h with ⟨h1, h2⟩ | ⟨j, v, v', e, h1, h2, h3, h4⟩
   ·exact .inl ⟨h1, fun w => by rw [hfk, h2]⟩
   ·exact .inr ⟨j, v, v', e, by rw [h1, Nat.zero_add], fun w => by rw [hfk, h2, Nat.zero_add], h3, h4, fun q => by simp [simpleKey] at q⟩
 ·have hfk : ∀ q, Instr.findNow kd k' ents 0 = some q → ∀ w, (Instr.findKey kt k' ents).run P w = .ok q w := fun q hq w => by
   unfold Instr.findKey
   simp only [Sem.run_bind, run_und hd, Result.andThen_ok, hq]
   simp
  rcases findPair_sim hk es ents 0 r hp h with ⟨h1, h2⟩ | ⟨j, v, v', e', h1, h2, h3, h4, h5⟩
  ·exact .inl ⟨h1, hfk _ h2⟩
  ·exact .inr ⟨j, v, v', e', by rw [h1, Nat.zero_add], fun w => by rw [hfk _ h2, Nat.zero_add], h3, h4, fun _ => h5⟩
theorem aLookup_sim {t : TypeId} {x x' k k' : Value} {ok : Bool} (hx : VRel Γ x x') (hk : VRel Γ k k') : Sim P Γ (aLookup P t x k ok) (Instr.lookup t x' k' ok) VRel := by
 intro W h n w hS
 unfold aLookup
 split
 ·rename_i kt et hd
  split
  ·rename_i kd hkd
   cases hsk : keyOk P kt kd k with
   | false => exact SimAt.fail
   | true =>
    simp only [cond_true]
    have main : ∀ (es : List (Value × Value × Nat)) (ents : Array MapEntry), PRels Γ es ents.toList →
      ((x' = .map none ∧ ents = #[]) ∨ ∃ r clk, x' = .map (some r) ∧ (getObj r).run P w = .ok (.map ents clk) w) →
      SimAt P Γ W h n w (match findKeyA P kd k es 0 with
       | some (some (_, v)) => .pure (cond ok (.tuple ⟨[v, .bool true]⟩) v)
       | some none => match zeroOf P et with
        | some z => .pure (cond ok (.tuple ⟨[z, .bool false]⟩) z)
        | none => .fail "lookup"
       | none => .fail "lookup") (Instr.lookup t x' k' ok) VRel := by
     intro es ents hp hrun
     have hrun' : ∀ r', (∀ w, (Instr.findKey kt k' ents.toList).run P w = .ok r' w) → (Instr.lookup t x' k' ok).run P w = (do
       let (v, ok') ← match r' with
        | some (_, v) => pure (v, true)
        | none => pure (← zeroValue et, false)
       pure (if ok then .tuple #[v, .bool ok'] else v) : Sem Value).run P w := by
      intro r' hr'
      unfold Instr.lookup
      simp only [Sem.run_bind, run_und hd, Result.andThen_ok]
      rcases hrun with ⟨rfl, rfl⟩ | ⟨r, clk, rfl, hgo⟩
      ·simp only [Sem.run_bind, Sem.run_pure, checkKey_ok hk hkd hsk, Result.andThen_ok, hr']
       cases r' <;> rfl
      ·simp only [Sem.run_bind, hgo, Sem.run_pure, checkKey_ok hk hkd hsk, Result.andThen_ok, hr']
       cases r' <;> rfl
     cases hfp : findKeyA P kd k es 0 with
     | none => exact SimAt.fail
     | some r =>
      rcases findKeyA_sim hk hkd hsk hp hfp with ⟨rfl, h2⟩ | ⟨j, v, v', e', rfl, h2, h3, _, _⟩
      ·dsimp only
       split
       ·rename_i z hz
        obtain ⟨hzr, hzz⟩ := zeroOf_spec hz
        refine SimAt.ok hS (b := if ok then .tuple #[z, .bool false] else z) ?_ ?_
        ·rw [hrun' _ h2]; simp [hzr]
        ·cases ok
         ·exact hzz Γ
         ·exact .tuple _ _ (.cons _ _ _ _ (hzz Γ) (.cons _ _ _ _ (.bool _) .nil))
       ·exact SimAt.fail
      ·dsimp only
       refine SimAt.ok hS (b := if ok then .tuple #[v', .bool true] else v') ?_ ?_
       ·rw [hrun' _ h2]; simp
       ·cases ok
        ·exact h3
        ·exact .tuple _ _ (.cons _ _ _ _ h3 (.cons _ _ _ _ (.bool _) .nil))
    unfold aMapGet
    split
    ·cases hx
     exact main [] #[] .nil (.inl ⟨rfl, rfl⟩)
    ·rename_i r
     cases hx with
     | map _ r' hr =>
      refine SimAt.get fun B hB => ?_
      cases B with
      | cells => exact SimAt.fail
      | iter => exact SimAt.fail
      | loop => exact SimAt.fail
      | deferred => exact SimAt.fail
      | map es clk =>
       obtain ⟨b, s, e, ⟨rfl, ents, h1, h2⟩, _⟩ := hS.live _ _ hB
       rw [hr] at e
       obtain ⟨rfl, _⟩ : r' = b ∧ 0 = 0 := by simpa using e
       exact main es ents h2 (.inr ⟨r', clk, rfl, by simp [getObj, Sem.run, h1]⟩)
    ·exact SimAt.fail
  ·exact SimAt.fail
 ·exact SimAt.fail
theorem PRels.modify {k k' v v' : Value} (hk : VRel Γ k k') (hv : VRel Γ v v') : ∀ {es : List (Value × Value × Nat)} {ents : List MapEntry} (j : Nat), PRels Γ es ents →
  PRels Γ (putEntry k v es j) (ents.modify j fun e => { e with key := k', val := v' })
 | _, _, 0, .nil => .nil
 | _, _, _ + 1, .nil => .nil
 | _, _, 0, .cons p e l l' h1 h2 hb t => by simpa [putEntry] using .cons _ _ _ _ hk hv hb t
 | _, _, j + 1, .cons p e l l' h1 h2 hb t => by
  have := PRels.modify hk hv j t
  simpa [putEntry] using .cons p e _ _ h1 h2 hb this
theorem sameBits_of_sameNow {d : TypeDesc} {a b : Value} (h : Instr.sameNow d a b = some true) (m : Nat) : Instr.sameBits m b a = true := by
 unfold Instr.sameNow at h
 split at h
 ·split at h
  ·rename_i hk
   subst hk
   simp only [Option.some.injEq, beq_iff_eq] at h
   subst h
   simp [Instr.sameBits]
  ·simp at h
 ·simp only [Option.some.injEq] at h
  rw [beq_toListBytes] at h
  have h' := eq_of_beq h
  simp [Instr.sameBits, beq_toListBytes, h']
 ·simp only [Option.some.injEq, beq_iff_eq] at h
  subst h
  simp [Instr.sameBits]
 ·simp at h
theorem aMapUpdate_sim {t : TypeId} {x x' k k' v v' : Value} (hx : VRel Γ x x') (hk : VRel Γ k k') (hv : VRel Γ v v') : Sim P Γ (aMapUpdate P t x k v) (Instr.mapUpdate t x' k' v') (fun _ _ _ => True) := by
 intro W h n w hS
 unfold aMapUpdate
 split
 ·rename_i kt et r hd
  split
  ·rename_i kd hkd
   cases hsk : keyOk P kt kd k with
   | false => exact SimAt.fail
   | true =>
    simp only [cond_true]
    cases hx with
    | map _ r' hr =>
     refine SimAt.get fun B hB => ?_
     split
     ·rename_i es clk
      obtain ⟨b, s, e, ⟨rfl, ents, h1, h2⟩, _⟩ := hS.live _ _ hB
      rw [hr] at e
      obtain ⟨rfl, _⟩ : r' = b ∧ 0 = 0 := by simpa using e
      have hgo : (getObj r').run P w = .ok (.map ents clk) w := by simp [getObj, Sem.run, h1]
      have hso : ∀ o, (setObj r' o).run P w = .ok () { w with heap := w.heap.setIfInBounds r' o } := fun o => by simp [setObj, Sem.run, h1]
      cases hfp : findKeyA P kd k es 0 with
      | none => exact SimAt.fail
      | some q =>
       rcases findKeyA_sim hk hkd hsk h2 hfp with ⟨rfl, h3⟩ | ⟨j, u, u', e', rfl, h3, h4, h5, h6⟩
       ·dsimp only
        refine SimAt.set (w' := { w with heap := w.heap.setIfInBounds r' (.map (ents.push { key := k', val := v', born := clk }) (clk + 1)) }) (e' := pure ()) ?_
         (SimAt.ok (hS.setMap hB hr _ (by simpa using h2.append (.cons (k, v, clk) { key := k', val := v', born := clk } _ _ hk hv rfl .nil))) rfl trivial)
        simp [Instr.mapUpdate, run_und hd, hgo, checkKey_ok hk hkd hsk, h3, hso]
       ·simp only [Nat.zero_add] at h3 ⊢
        have hjl : j < ents.toList.length := by
         rcases Nat.lt_or_ge j ents.toList.length with hh | hh
         ·exact hh
         ·rw [List.getElem?_eq_none hh] at h5; simp at h5
        cases hsk2 : simpleKey kd with
        | false => exact SimAt.fail
        | true =>
        simp only [cond_true]
        refine SimAt.set (w' := { w with heap := w.heap.setIfInBounds r' (.map (ents.modify j fun e => { e with key := k', val := v' }) clk) }) (e' := pure ()) ?_
         (SimAt.ok (hS.setMap hB hr _ (by
          have := h2.modify hk hv j
          simpa using this)) rfl trivial)
        have h5' : ents[j]? = some e' := by simpa using h5
        have hsb := sameBits_of_sameNow (h6 hsk2) 10000
        simp [Instr.mapUpdate, run_und hd, hgo, checkKey_ok hk hkd hsk, h3, Instr.keyThatStays, h5', hsb, hso]
     ·exact SimAt.fail
  ·exact SimAt.fail
 ·exact SimAt.fail
theorem PRels.eraseIdx : ∀ {es : List (Value × Value × Nat)} {ents : List MapEntry} (j : Nat), PRels Γ es ents → PRels Γ (es.eraseIdx j) (ents.eraseIdx j)
 | _, _, _, .nil => by simpa using .nil
 | _, _, 0, .cons p e l l' h1 h2 hb t => by simpa using t
 | _, _, j + 1, .cons p e l l' h1 h2 hb t => by simpa using .cons p e _ _ h1 h2 hb (PRels.eraseIdx j t)
theorem aDelete_sim {ts : Array TypeId} {ty : TypeId} {args args' : List Value} (ha : VRels Γ args args') : Sim P Γ (aDelete P ts.toList args) (Builtin.delete_ ts ty ⟨args'⟩) VRel := by
 intro W h n w hS
 unfold aDelete
 split
 ·rename_i t tr r k hts
  obtain ⟨tl⟩ := ts
  obtain rfl : tl = t :: tr := hts
  cases ha with
  | cons _ m' _ _ hm ha =>
   cases ha with
   | cons _ k' _ _ hk ha =>
    cases ha
    cases hm with
    | map _ r' hr =>
     split
     ·rename_i kt et hd
      split
      ·rename_i kd hkd
       cases hsk : keyOk P kt kd k with
       | false => exact SimAt.fail
       | true =>
        simp only [cond_true]
        refine SimAt.get fun B hB => ?_
        split
        ·rename_i es clk
         obtain ⟨b, s, e, ⟨rfl, ents, h1, h2⟩, _⟩ := hS.live _ _ hB
         rw [hr] at e
         obtain ⟨rfl, _⟩ : r' = b ∧ 0 = 0 := by simpa using e
         have hgo : (getObj r').run P w = .ok (.map ents clk) w := by simp [getObj, Sem.run, h1]
         have hso : ∀ o, (setObj r' o).run P w = .ok () { w with heap := w.heap.setIfInBounds r' o } := fun o => by simp [setObj, Sem.run, h1]
         cases hfp : findKeyA P kd k es 0 with
         | none => exact SimAt.fail
         | some q =>
          rcases findKeyA_sim hk hkd hsk h2 hfp with ⟨rfl, h3⟩ | ⟨j, u, u', e', rfl, h3, h4, h5, h6⟩
          ·dsimp only
           have hsame : ({ w with heap := w.heap.setIfInBounds r' (.map ents clk) } : World) = w := by
            have : w.heap.setIfInBounds r' (.map ents clk) = w.heap := by
             apply Array.ext_getElem?
             intro i
             by_cases hi : i = r'
             ·subst hi; rw [h1]; simp [lt_of_heap h1]
             ·rw [Array.getElem?_setIfInBounds_ne (Ne.symm hi)]
            rw [this]
           refine SimAt.ok hS (b := .tuple #[]) ?_ (.tuple _ _ .nil)
           simp [Builtin.delete_, run_und hd, hgo, checkKey_ok hk hkd hsk, h3, hso, hsame]
          ·simp only [Nat.zero_add] at h3 ⊢
           refine SimAt.set (w' := { w with heap := w.heap.setIfInBounds r' (.map (ents.eraseIdxIfInBounds j) clk) }) (e' := pure (.tuple #[])) ?_
            (SimAt.ok (hS.setMap hB hr _ (by
             have := h2.eraseIdx j
             simpa using this)) rfl (.tuple _ _ .nil))
           simp [Builtin.delete_, run_und hd, hgo, checkKey_ok hk hkd hsk, h3, hso]
        ·exact SimAt.fail
      ·exact SimAt.fail
     ·exact SimAt.fail
 ·exact SimAt.fail
theorem aLen_sim {ts : Array TypeId} {ty : TypeId} {args args' : List Value} (ha : VRels Γ args args') : Sim P Γ (aLen P ts.toList args) (Builtin.len_ ts ty ⟨args'⟩) VRel := by
 intro W h n w hS
 unfold aLen
 split
 ·rename_i t tr x xr hts
  obtain ⟨tl⟩ := ts
  obtain rfl : tl = t :: tr := hts
  cases ha with
  | cons _ x' _ xr' hx ha =>
   split
   ·rename_i s hd
    cases hx
    exact SimAt.ok hS (b := .int .i64 s.size) (by simp [Builtin.len_, run_und hd, goInt]) (.int _ _)
   ·rename_i _ m e hd
    exact SimAt.ok hS (b := .int .i64 m) (by simp [Builtin.len_, run_und hd, goInt]) (.int _ _)
   ·rename_i _ arr hd
    split
    ·rename_i m e hd2
     exact SimAt.ok hS (b := .int .i64 m) (by simp [Builtin.len_, run_und hd, run_und hd2, goInt]) (.int _ _)
    ·exact SimAt.fail
   ·rename_i e a m c hd
    cases hx with
    | nilslice => exact SimAt.ok hS (b := .int .i64 m) (by simp [Builtin.len_, run_und hd, goInt]) (.int _ _)
    | slice => exact SimAt.ok hS (b := .int .i64 m) (by simp [Builtin.len_, run_und hd, goInt]) (.int _ _)
   ·rename_i _ k e hd
    unfold aMapGet
    split
    ·cases hx
     exact SimAt.ok hS (b := .int .i64 (0 : Nat)) (by simp [Builtin.len_, run_und hd, goInt]) (.int _ _)
    ·rename_i r
     cases hx with
     | map _ r' hr =>
      refine SimAt.get fun B hB => ?_
      cases B with
      | cells => exact SimAt.fail
      | iter => exact SimAt.fail
      | loop => exact SimAt.fail
      | deferred => exact SimAt.fail
      | map es clk =>
       obtain ⟨b, s, e, ⟨rfl, ents, h1, h2⟩, _⟩ := hS.live _ _ hB
       rw [hr] at e
       obtain ⟨rfl, _⟩ : r' = b ∧ 0 = 0 := by simpa using e
       have hgo : (getObj r').run P w = .ok (.map ents clk) w := by simp [getObj, Sem.run, h1]
       have hlen : ents.size = es.length := by simpa using h2.length
       exact SimAt.ok hS (b := .int .i64 es.length) (by simp [Builtin.len_, run_und hd, goInt, hgo, hlen]) (.int _ _)
    ·exact SimAt.fail
   ·exact SimAt.fail
 ·exact SimAt.fail
theorem aCap_sim {ts : Array TypeId} {ty : TypeId} {args args' : List Value} (ha : VRels Γ args args') : Sim P Γ (aCap P ts.toList args) (Builtin.cap_ ts ty ⟨args'⟩) VRel := by
 intro W h n w hS
 unfold aCap
 split
 ·rename_i t tr x xr hts
  obtain ⟨tl⟩ := ts
  obtain rfl : tl = t :: tr := hts
  cases ha with
  | cons _ x' _ xr' hx ha =>
   split
   ·rename_i _ m e hd
    exact SimAt.ok hS (b := .int .i64 m) (by simp [Builtin.cap_, run_und hd, goInt]) (.int _ _)
   ·rename_i e a m c hd
    cases hi : Nat.ble capInf c with
    | true => exact SimAt.fail
    | false =>
     have hinf' : ¬ capInf ≤ c := fun hle => by rw [Nat.ble_eq_true_of_le hle] at hi; exact Bool.noConfusion hi
     cases hx with
     | nilslice => exact SimAt.ok hS (b := .int .i64 c) (by simp [Builtin.cap_, run_und hd, goInt]) (.int _ _)
     | slice _ _ _ _ c' _ hc =>
      unfold Emb.cap at hc
      rw [if_neg hinf'] at hc
      subst hc
      exact SimAt.ok hS (b := .int .i64 c') (by simp [Builtin.cap_, run_und hd, goInt]) (.int _ _)
   ·exact SimAt.fail
 ·exact SimAt.fail
theorem minmax_sim (mx : Bool) : ∀ (r r' : List Value) (x x' v : Value), VRel Γ x x' → VRels Γ r r' → minmax mx x r = some v →
  ∃ v', (∀ w, (r'.foldlM (if mx then Builtin.max2 else Builtin.min2) x').run P w = .ok v' w) ∧ VRel Γ v v'
 | [], r', x, x', v, hx, hr, e => by
  cases hr
  obtain rfl : x = v := by simpa [minmax] using e
  exact ⟨x', fun w => rfl, hx⟩
 | y :: r, r', x, x', v, hx, hr, e => by
  cases hr with
  | cons _ y' _ r' hy hr =>
   unfold minmax at e
   split at e
   ·rename_i heq; simp at heq
   ·rename_i k a k' b rr heq
    obtain ⟨rfl, rfl⟩ : y = .int k' b ∧ r = rr := by simpa using heq
    cases hx; cases hy
    obtain ⟨v', hrun, hv⟩ := minmax_sim mx r r' _ _ v (.int _ _) hr e
    refine ⟨v', fun w => ?_, hv⟩
    rw [← hrun w]
    cases mx
    ·simp [Builtin.min2]
    ·simp [Builtin.max2]
   ·simp at e
theorem aCopy_sim {ts : Array TypeId} {ty : TypeId} {args args' : List Value} (ha : VRels Γ args args') : Sim P Γ (aCopy P ts.toList args) (Builtin.copy_ ts ty ⟨args'⟩) VRel := by
 intro W h n w hS
 unfold aCopy
 split
 ·rename_i t tr base len cap x hts
  obtain ⟨tl⟩ := ts
  obtain rfl : tl = t :: tr := hts
  cases ha with
  | cons _ d' _ _ hd' ha =>
   cases ha with
   | cons _ x' _ _ hx ha =>
    cases ha
    split
    ·rename_i e hd
     split
     ·rename_i i a b m c hi
      cases hd' with
      | slice _ a' _ _ dc' haa0 hca =>
       cases hx with
       | slice _ b' _ _ sc' hbb0 hcb =>
        have hmin : Nat.min m len = min m len := rfl
        cases hmz : Nat.beq (min m len) 0 with
        | true =>
         have hmz := beq_true hmz
         refine SimAt.ok hS (b := .int .i64 0) ?_ (.int _ _)
         simp only [Builtin.copy_, List.getElem?_toArray, List.getElem?_cons_zero, List.getElem?_cons_succ, Sem.run_bind, run_und hd, Result.andThen_ok, Builtin.lenOf, Sem.run_pure, run_size hi, Builtin.firstCells, hmin, hmz]
         simp [loadCells, loadCellsFrom, storeCells, goInt]
        | false =>
         have hmz : min m len ≠ 0 := fun e => by rw [e] at hmz; exact Bool.noConfusion hmz
         have haa := haa0.exact (.inl (by omega))
         have hbb := hbb0.exact (.inl (by omega))
         simp only [cond_false]
         refine SimAt.get fun B hB => ?_
         split
         ·rename_i cc ro
          split
          ·rename_i l hl
           obtain ⟨l', hl', hrl⟩ := readCells_sim (P := P) hS hB hbb rfl hl
           refine SimAt.get fun D hD => ?_
           split
           ·rename_i dd
            split
            ·rename_i d2 hd2
             obtain ⟨w', hr, hS'⟩ := storeCells_sim (P := P) (i := a.block) (a := a) (a' := a') rfl l l' dd d2 0 h w haa hS hD hl' (by simpa using hd2)
             refine SimAt.set (w' := w') (e' := pure (.int .i64 (min m len : Nat))) ?_ (SimAt.ok hS' rfl (.int _ _))
             simp only [Builtin.copy_, List.getElem?_toArray, List.getElem?_cons_zero, List.getElem?_cons_succ, Sem.run_bind, run_und hd, Result.andThen_ok, Builtin.lenOf, Sem.run_pure, run_size hi, Builtin.firstCells, hmin, hrl]
             simp [hr, goInt]
            ·exact SimAt.fail
           ·exact SimAt.fail
          ·exact SimAt.fail
         ·exact SimAt.fail
     ·rename_i i a m c hi
      cases hl0 : Nat.beq len 0 with
      | false => exact SimAt.fail
      | true =>
       obtain rfl := beq_true hl0
       cases hd'
       refine SimAt.ok hS (b := .int .i64 0) ?_ (.int _ _)
       have hmin : ∀ m, Nat.min m 0 = 0 := fun m => Nat.min_zero m
       cases hx with
       | nilslice => simp [Builtin.copy_, run_und hd, Builtin.lenOf, run_size hi, Builtin.firstCells, goInt, hmin]
       | slice => simp [Builtin.copy_, run_und hd, Builtin.lenOf, run_size hi, Builtin.firstCells, goInt, hmin, loadCells, loadCellsFrom]
     ·rename_i i a m c hi
      cases hd' with
      | slice _ a' _ _ dc' haa hca =>
       cases hx
       refine SimAt.ok hS (b := .int .i64 (min m len : Nat)) ?_ (.int _ _)
       have hmin : Nat.min m len = min m len := rfl
       simp [Builtin.copy_, run_und hd, Builtin.lenOf, run_size hi, Builtin.firstCells, goInt, hmin, storeCells]
     ·exact SimAt.fail
    ·exact SimAt.fail
 ·exact SimAt.fail
end
end Go.Am
