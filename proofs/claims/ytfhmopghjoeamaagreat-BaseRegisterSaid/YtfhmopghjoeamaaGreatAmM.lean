/-
  The abstract machine: the operations' simulations: maps, len, cap, copy, min, max; receivers and methods; the call's target.
-/
import Derived.Test.YtfhmopghjoeamaaGreatAmL
set_option linter.unusedSimpArgs false
set_option linter.unusedVariables false
namespace Go.Am
open Go.RowKit
section
variable {P:Program} {Γ:aV} {W w:World} {h:PT aj} {n:Nat}
theorem sW {t:TypeId} {v v':Option Value} (hv:oQ Γ v v'):dZ P Γ (pJ P t v) (Instr.makeMap t v') ay:=by
 intro W h n w hS
 have key:∀ e:Sem Value,e.run P w = .ok (.map (some w.heap.size)) (w.alloc (.map #[] 0))→ah P Γ W h n w (.new (.map [] 0) fun id => .pure (.map (some id))) e ay:=by
  intro e he
  refine ah.new fun hn=>?_
  obtain⟨aI,hst,hb,gj⟩:=hS.eZ hn (.map #[] 0) (.map [] 0) rfl (fun aI w' _ h1=>⟨rfl,#[],h1,.nil⟩)
  exact⟨aI,_,pure (.map (some w.heap.size)),hst,he,ah.ok gj rfl (.map _ _ hb)⟩
 unfold pJ
 cases hv with
 |no=>exact key _ (by simp[Instr.makeMap])
 |yes a b hab=>
  dsimp only
  split
  ·rename_i k e kd i hd
   cases hab
   exact key _ (by simp[Instr.makeMap,az hd,asInt,asIntOf])
  ·exact ah.fail
theorem ia {d:TypeDesc} {k e k' e':Value} (hk:ay Γ k k') (he:ay Γ e e') {b:Bool} (h:Instr.sameNow d k e=some b):Instr.sameNow d k' e'=some b:=by
 unfold Instr.sameNow at h
 split at h
 ·cases hk;cases he;exact h
 ·cases hk;cases he;exact h
 ·cases hk;cases he;exact h
 ·simp at h
theorem me {d:TypeDesc} {k k':Value} (hk:ay Γ k k'):∀ (es:List (Value×Value×Nat)) (aK:List MapEntry) (i:Nat) (r:Option (Nat×Value)),bz Γ es aK→gG d k es i=some r→
  (r=none∧Instr.findNow d k' aK i=some none)∨(∃ j v v' e,r=some (i+j,v)∧Instr.findNow d k' aK i=some (some (i+j,v'))∧ay Γ v v'∧aK[j]? = some e∧Instr.sameNow d k' e.key=some true)
 | [],aK,i,r,hp,h=>by
  cases hp
  simp only[gG,Option.some.injEq] at h
  exact .inl ⟨h.symm,rfl⟩
 |p::es,aK,i,r,hp,h=>by
  cases hp with
  |cons _ e _ aK hkk Mu wm ht=>
   simp only[gG] at h
   split at h
   ·rename_i hs
    have hs':=ia hk hkk hs
    refine .inr ⟨0,p.2.1,e.val,e,by simpa using h.symm,?_,Mu,rfl,hs'⟩
    simp[Instr.findNow,hs']
   ·rename_i hs
    have hs':=ia hk hkk hs
    rcases me hk es aK (i+1) r ht h with ⟨h1,h2⟩ | ⟨j,v,v',e',h1,h2,h3,h4,h5⟩
    ·exact .inl ⟨h1,by simp[Instr.findNow,hs',h2]⟩
    ·refine .inr ⟨j+1,v,v',e',by rw[h1];congr 2;omega,?_,h3,by simpa using h4,h5⟩
     simp only[Instr.findNow,hs',h2]
     congr 3;omega
   ·simp at h
theorem mg {kt:TypeId} {kd:TypeDesc} (hd:P.underlying kt=some kd) (hs:simpleKey kd=true) (empty:Bool) (m:Nat) (v:Value) (w:World):(Instr.checkKey empty (m+1) kt v).run P w = .ok () w:=by
 cases kd<;>first | (simp[simpleKey] at hs;done) |simp[Instr.checkKey,az hd]
theorem wV {l:List Field} (body:Field→PUnit→Sem (ForInStep PUnit)) (hb:∀ f∈l,∀ w,(body f ⟨⟩).run P w = .ok (.yield ⟨⟩) w) (w:World):(forIn l (⟨⟩:PUnit) body:Sem PUnit).run P w = .ok ⟨⟩ w:=by
 induction l with
 |nil=>simp
 |cons f l ih=>
  rw[List.forIn_cons]
  simp only[Sem.run_bind,hb f List.mem_cons_self,Result.andThen_ok]
  exact ih fun f hf=>hb f (List.mem_cons_of_mem _ hf)
theorem ey {kt:TypeId} {kd:TypeDesc} {k k':Value} (hk:ay Γ k k') (hd:P.underlying kt=some kd) (hs:iH P kt kd k=true) (empty:Bool) (w:World):(Instr.checkKey empty 10000 kt k').run P w = .ok () w:=by
 unfold iH at hs
 split at hs
 ·rename_i fs cs
  cases hk with
  |agg l l' hl=>
   simp only[Bool.and_eq_true] at hs
   have hf:=hs.2
   unfold yB at hf
   rw[List.all_eq_true] at hf
   rw[show (10000:Nat)=9998+1+1 from rfl,Instr.checkKey]
   simp only[Sem.run_bind,az hd,Result.andThen_ok]
   rw[←Array.forIn_toList]
   rw[wV (P:=P) _ ?_ w]
   ·simp
   ·intro f hfm w
    have:=hf f hfm
    split at this
    ·rename_i d v h1 h2
     obtain⟨v',hp,-⟩:=dV hl h2
     by_cases hn:f.name = "_"
     ·simp[hn]
     ·simp[hn,hp,mg h1 this]
    ·simp at this
 ·exact mg hd hs empty 9999 k' w
theorem oh {D:Nat} {t:TypeId} {d:TypeDesc} {a b:Value} {q:Bool} (hd:P.underlying t=some d) (h:Instr.sameNow d a b=some q) (w:World):(Op.equalIn (D+1) t a b).run P w = .ok q w:=by
 unfold Instr.sameNow at h
 split at h
 ·split at h
  ·rename_i hk
   subst hk
   simp only[Option.some.injEq] at h
   subst h
   simp[Op.equalIn,az hd]
  ·simp at h
 ·simp only[Option.some.injEq] at h
  subst h
  simp[Op.equalIn,az hd]
 ·simp only[Option.some.injEq] at h
  subst h
  simp[Op.equalIn,az hd]
 ·simp at h
theorem lD (D:Nat) {xs ys xs' ys':List Value} (hx:aD Γ xs xs') (hy:aD Γ ys ys'):∀ (fs:List Field) (b:Bool),lB P xs ys fs=some b→∀ w,(Op.eqFields (D+1) ⟨xs'⟩ ⟨ys'⟩ fs).run P w = .ok b w
 | [],b,h,w=>by
  simp only[lB,Option.some.injEq] at h
  subst h
  simp[Op.eqFields]
 |f::fs,b,h,w=>by
  unfold lB at h
  unfold Op.eqFields
  split at h
  ·rename_i hn
   split at h
   ·rename_i d p q hd hp hq
    obtain⟨p',XI,XJ⟩:=dV hx hp
    obtain⟨q',XK,XL⟩:=dV hy hq
    split at h
    ·rename_i hs
     have:=oh (D:=D) hd (ia XJ XL hs) w
     have ih:=lD D hx hy fs b h w
     simp[hn,XI,XK,this,ih]
    ·rename_i hs
     have:=oh (D:=D) hd (ia XJ XL hs) w
     simp only[Option.some.injEq] at h
     subst h
     simp[hn,XI,XK,this]
    ·simp at h
   ·simp at h
  ·rename_i hn
   have ih:=lD D hx hy fs b h w
   have hn':f.name = "_":=by simpa using hn
   simp[hn',ih]
theorem mA {kt:TypeId} {fs:Array Field} {xs xs':List Value} (hd:P.underlying kt=some (.struct fs)) (hst:P.stoodInHeld kt=false) (hx:aD Γ xs xs'):∀ (es:List (Value×Value×Nat)) (aK:List MapEntry) (i:Nat) (r:Option (Nat×Value)),bz Γ es aK→jJ P fs.toList xs es i=some r→
  (r=none∧∀ w,(Instr.findAsking kt (.agg ⟨xs'⟩) aK i).run P w = .ok none w)∨(∃ j v v' e,r=some (i+j,v)∧(∀ w,(Instr.findAsking kt (.agg ⟨xs'⟩) aK i).run P w = .ok (some (i+j,v')) w)∧ay Γ v v'∧aK[j]? = some e)
 | [],aK,i,r,hp,h=>by
  cases hp
  simp only[jJ,Option.some.injEq] at h
  exact .inl ⟨h.symm,fun w=>by simp[Instr.findAsking]⟩
 |p::es,aK,i,r,hp,h=>by
  cases hp with
  |cons _ e _ aK hkk Mu wm ht=>
   simp only[jJ] at h
   split at h
   ·rename_i ys hpe
    rw[hpe] at hkk
    cases TH:e.key with
    |agg ys'=>
     rw[TH] at hkk
     obtain⟨yl⟩:=ys'
     obtain⟨ysl⟩:=ys
     cases hkk with
     |agg _ _ hy=>
      have hfo:P.fieldsOf kt=fs:=by simp[Program.fieldsOf,hd]
      have hrun:∀ b,lB P xs ysl fs.toList=some b→∀ w,(Op.equal kt (.agg ⟨xs'⟩) e.key).run P w = .ok b w:=fun b hb w=>by
       have:=lD 9998 hx hy fs.toList b hb w
       rw[TH,show Op.equal kt (.agg ⟨xs'⟩) (.agg ⟨yl⟩)=Op.equalIn (9999+1) kt (.agg ⟨xs'⟩) (.agg ⟨yl⟩) from rfl,run_equalIn_struct w 9999 kt _ _ (by rw[hfo];exact hd) hst,hfo]
       exact this
      split at h
      ·rename_i hs
       refine .inr ⟨0,p.2.1,e.val,e,by simpa using h.symm,fun w=>?_,Mu,rfl⟩
       simp[Instr.findAsking,hrun _ hs]
      ·rename_i hs
       rcases mA hd hst hx es aK (i+1) r ht h with ⟨h1,h2⟩ | ⟨j,v,v',e',h1,h2,h3,h4⟩
       ·exact .inl ⟨h1,fun w=>by simp[Instr.findAsking,hrun _ hs,h2]⟩
       ·refine .inr ⟨j+1,v,v',e',by rw[h1];congr 2;omega,fun w=>?_,h3,by simpa using h4⟩
        rw[show i+(j+1)=i+1+j by omega]
        simp only[Instr.findAsking,Sem.run_bind,hrun _ hs,Result.andThen_ok,h2,Bool.false_eq_true,if_false]
      ·simp at h
    | _=>rw[TH] at hkk;cases hkk
   ·simp at h
theorem jj {kt:TypeId} {kd:TypeDesc} {k k':Value} (hk:ay Γ k k') (hd:P.underlying kt=some kd) (hs:iH P kt kd k=true) {es:List (Value×Value×Nat)} {aK:List MapEntry} {r:Option (Nat×Value)} (hp:bz Γ es aK) (h:bN P kd k es 0=some r):
  (r=none∧∀ w,(Instr.findKey kt k' aK).run P w = .ok none w)∨(∃ j v v' e,r=some (j,v)∧(∀ w,(Instr.findKey kt k' aK).run P w = .ok (some (j,v')) w)∧ay Γ v v'∧aK[j]? = some e∧(simpleKey kd=true→Instr.sameNow kd k' e.key=some true)):=by
 unfold bN at h
 unfold iH at hs
 split at h
 ·rename_i fs cs
  cases hk with
  |agg l l' hl=>
   simp only[Bool.and_eq_true,Bool.not_eq_true'] at hs
   have Mv:∀ w,(Instr.findKey kt (.agg ⟨l'⟩) aK).run P w=(Instr.findAsking kt (.agg ⟨l'⟩) aK 0).run P w:=fun w=>by
    unfold Instr.findKey
    simp only[Sem.run_bind,az hd,Result.andThen_ok]
    cases aK with
    |nil=>simp[Instr.findNow,Instr.findAsking]
    |cons e es=>simp[Instr.findNow,Instr.sameNow]
   rcases mA hd hs.1 hl es aK 0 r hp h with ⟨h1,h2⟩ | ⟨j,v,v',e,h1,h2,h3,h4⟩
   ·exact .inl ⟨h1,fun w=>by rw[Mv,h2]⟩
   ·exact .inr ⟨j,v,v',e,by rw[h1,Nat.zero_add],fun w=>by rw[Mv,h2,Nat.zero_add],h3,h4,fun q=>by simp[simpleKey] at q⟩
 ·have Mv:∀ q,Instr.findNow kd k' aK 0=some q→∀ w,(Instr.findKey kt k' aK).run P w = .ok q w:=fun q hq w=>by
   unfold Instr.findKey
   simp only[Sem.run_bind,az hd,Result.andThen_ok,hq]
   simp
  rcases me hk es aK 0 r hp h with ⟨h1,h2⟩ | ⟨j,v,v',e',h1,h2,h3,h4,h5⟩
  ·exact .inl ⟨h1,Mv _ h2⟩
  ·exact .inr ⟨j,v,v',e',by rw[h1,Nat.zero_add],fun w=>by rw[Mv _ h2,Nat.zero_add],h3,h4,fun _=>h5⟩
theorem uD {t:TypeId} {x x' k k':Value} {ok:Bool} (hx:ay Γ x x') (hk:ay Γ k k'):dZ P Γ (lY P t x k ok) (Instr.lookup t x' k' ok) ay:=by
 intro W h n w hS
 unfold lY
 split
 ·rename_i kt et hd
  split
  ·rename_i kd Bn
   cases hsk:iH P kt kd k with
   |false=>exact ah.fail
   |true=>
    simp only[cond_true]
    have main:∀ (es:List (Value×Value×Nat)) (aK:Array MapEntry),bz Γ es aK.toList→
      ((x' = .map none∧aK=#[])∨∃ r clk,x' = .map (some r)∧(getObj r).run P w = .ok (.map aK clk) w)→
      ah P Γ W h n w (match bN P kd k es 0 with
       |some (some (_,v)) => .pure (cond ok (.tuple ⟨[v,.bool true]⟩) v)
       |some none=>match zeroOf P et with
        |some z => .pure (cond ok (.tuple ⟨[z,.bool false]⟩) z)
        |none => .fail "lookup"
       |none => .fail "lookup") (Instr.lookup t x' k' ok) ay:=by
     intro es aK hp hrun
     have G0:∀ r',(∀ w,(Instr.findKey kt k' aK.toList).run P w = .ok r' w)→(Instr.lookup t x' k' ok).run P w=(do
       let (v,ok') ←match r' with
        |some (_,v)=>pure (v,true)
        |none=>pure (←zeroValue et,false)
       pure (if ok then .tuple #[v,.bool ok'] else v):Sem Value).run P w:=by
      intro r' hr'
      unfold Instr.lookup
      simp only[Sem.run_bind,az hd,Result.andThen_ok]
      rcases hrun with ⟨rfl,rfl⟩ | ⟨r,clk,rfl,sX⟩
      ·simp only[Sem.run_bind,Sem.run_pure,ey hk Bn hsk,Result.andThen_ok,hr']
       cases r'<;>rfl
      ·simp only[Sem.run_bind,sX,Sem.run_pure,ey hk Bn hsk,Result.andThen_ok,hr']
       cases r'<;>rfl
     cases Mw:bN P kd k es 0 with
     |none=>exact ah.fail
     |some r=>
      rcases jj hk Bn hsk hp Mw with ⟨rfl,h2⟩ | ⟨j,v,v',e',rfl,h2,h3,_,_⟩
      ·dsimp only
       split
       ·rename_i z hz
        obtain⟨uq,uz⟩:=b_ hz
        refine ah.ok hS (b:=if ok then .tuple #[z,.bool false] else z) ?_ ?_
        ·rw[G0 _ h2];simp[uq]
        ·cases ok
         ·exact uz Γ
         ·exact .tuple _ _ (.cons _ _ _ _ (uz Γ) (.cons _ _ _ _ (.bool _) .nil))
       ·exact ah.fail
      ·dsimp only
       refine ah.ok hS (b:=if ok then .tuple #[v',.bool true] else v') ?_ ?_
       ·rw[G0 _ h2];simp
       ·cases ok
        ·exact h3
        ·exact .tuple _ _ (.cons _ _ _ _ h3 (.cons _ _ _ _ (.bool _) .nil))
    unfold kC
    split
    ·cases hx
     exact main [] #[] .nil (.inl ⟨rfl,rfl⟩)
    ·rename_i r
     cases hx with
     |map _ r' hr=>
      refine ah.get fun B hB=>?_
      cases B with
      |cells=>exact ah.fail
      |iter=>exact ah.fail
      |loop=>exact ah.fail
      |deferred=>exact ah.fail
      |map es clk=>
       obtain⟨b,s,e,⟨rfl,aK,h1,h2⟩,_⟩:=hS.live _ _ hB
       rw[hr] at e
       obtain⟨rfl,_⟩:r'=b∧0=0:=by simpa using e
       exact main es aK h2 (.inr ⟨r',clk,rfl,by simp[getObj,Sem.run,h1]⟩)
    ·exact ah.fail
  ·exact ah.fail
 ·exact ah.fail
theorem bz.modify {k k' v v':Value} (hk:ay Γ k k') (hv:ay Γ v v'):∀ {es:List (Value×Value×Nat)} {aK:List MapEntry} (j:Nat),bz Γ es aK→
  bz Γ (cZ k v es j) (aK.modify j fun e=>{ e with key:=k',val:=v' })
 | _,_,0,.nil => .nil
 | _,_,_+1,.nil => .nil
 | _,_,0,.cons p e l l' h1 h2 hb t=>by simpa [cZ] using .cons _ _ _ _ hk hv hb t
 | _,_,j+1,.cons p e l l' h1 h2 hb t=>by
  have:=bz.modify hk hv j t
  simpa [cZ] using .cons p e _ _ h1 h2 hb this
theorem kX {d:TypeDesc} {a b:Value} (h:Instr.sameNow d a b=some true) (m:Nat):Instr.sameBits m b a=true:=by
 unfold Instr.sameNow at h
 split at h
 ·split at h
  ·rename_i hk
   subst hk
   simp only[Option.some.injEq,beq_iff_eq] at h
   subst h
   simp[Instr.sameBits]
  ·simp at h
 ·simp only[Option.some.injEq] at h
  rw[beq_toListBytes] at h
  have h':=eq_of_beq h
  simp[Instr.sameBits,beq_toListBytes,h']
 ·simp only[Option.some.injEq,beq_iff_eq] at h
  subst h
  simp[Instr.sameBits]
 ·simp at h
theorem jR {t:TypeId} {x x' k k' v v':Value} (hx:ay Γ x x') (hk:ay Γ k k') (hv:ay Γ v v'):dZ P Γ (gH P t x k v) (Instr.mapUpdate t x' k' v') (fun _ _ _=>True):=by
 intro W h n w hS
 unfold gH
 split
 ·rename_i kt et r hd
  split
  ·rename_i kd Bn
   cases hsk:iH P kt kd k with
   |false=>exact ah.fail
   |true=>
    simp only[cond_true]
    cases hx with
    |map _ r' hr=>
     refine ah.get fun B hB=>?_
     split
     ·rename_i es clk
      obtain⟨b,s,e,⟨rfl,aK,h1,h2⟩,_⟩:=hS.live _ _ hB
      rw[hr] at e
      obtain⟨rfl,_⟩:r'=b∧0=0:=by simpa using e
      have sX:(getObj r').run P w = .ok (.map aK clk) w:=by simp[getObj,Sem.run,h1]
      have wu:∀ o,(setObj r' o).run P w = .ok () { w with heap:=w.heap.setIfInBounds r' o }:=fun o=>by simp[setObj,Sem.run,h1]
      cases Mw:bN P kd k es 0 with
      |none=>exact ah.fail
      |some q=>
       rcases jj hk Bn hsk h2 Mw with ⟨rfl,h3⟩ | ⟨j,u,u',e',rfl,h3,h4,h5,h6⟩
       ·dsimp only
        refine ah.set (w':={ w with heap:=w.heap.setIfInBounds r' (.map (aK.push { key:=k',val:=v',born:=clk }) (clk+1)) }) (e':=pure ()) ?_
         (ah.ok (hS.wG hB hr _ (by simpa using h2.append (.cons (k,v,clk) { key:=k',val:=v',born:=clk } _ _ hk hv rfl .nil))) rfl trivial)
        simp[Instr.mapUpdate,az hd,sX,ey hk Bn hsk,h3,wu]
       ·simp only[Nat.zero_add] at h3 ⊢
        have hjl:j<aK.toList.length:=by
         rcases Nat.lt_or_ge j aK.toList.length with hh |hh
         ·exact hh
         ·rw[List.getElem?_eq_none hh] at h5;simp at h5
        cases TI:simpleKey kd with
        |false=>exact ah.fail
        |true=>
        simp only[cond_true]
        refine ah.set (w':={ w with heap:=w.heap.setIfInBounds r' (.map (aK.modify j fun e=>{ e with key:=k',val:=v' }) clk) }) (e':=pure ()) ?_
         (ah.ok (hS.wG hB hr _ (by
          have:=h2.modify hk hv j
          simpa using this)) rfl trivial)
        have h5':aK[j]? = some e':=by simpa using h5
        have hsb:=kX (h6 TI) 10000
        simp[Instr.mapUpdate,az hd,sX,ey hk Bn hsk,h3,Instr.keyThatStays,h5',hsb,wu]
     ·exact ah.fail
  ·exact ah.fail
 ·exact ah.fail
theorem bz.eraseIdx:∀ {es:List (Value×Value×Nat)} {aK:List MapEntry} (j:Nat),bz Γ es aK→bz Γ (es.eraseIdx j) (aK.eraseIdx j)
 | _,_,_,.nil=>by simpa using .nil
 | _,_,0,.cons p e l l' h1 h2 hb t=>by simpa using t
 | _,_,j+1,.cons p e l l' h1 h2 hb t=>by simpa using .cons p e _ _ h1 h2 hb (bz.eraseIdx j t)
theorem uE {ts:Array TypeId} {ty:TypeId} {args args':List Value} (ha:aD Γ args args'):dZ P Γ (lZ P ts.toList args) (Builtin.delete_ ts ty ⟨args'⟩) ay:=by
 intro W h n w hS
 unfold lZ
 split
 ·rename_i t tr r k hts
  obtain⟨tl⟩:=ts
  obtain rfl:tl=t::tr:=hts
  cases ha with
  |cons _ m' _ _ hm ha=>
   cases ha with
   |cons _ k' _ _ hk ha=>
    cases ha
    cases hm with
    |map _ r' hr=>
     split
     ·rename_i kt et hd
      split
      ·rename_i kd Bn
       cases hsk:iH P kt kd k with
       |false=>exact ah.fail
       |true=>
        simp only[cond_true]
        refine ah.get fun B hB=>?_
        split
        ·rename_i es clk
         obtain⟨b,s,e,⟨rfl,aK,h1,h2⟩,_⟩:=hS.live _ _ hB
         rw[hr] at e
         obtain⟨rfl,_⟩:r'=b∧0=0:=by simpa using e
         have sX:(getObj r').run P w = .ok (.map aK clk) w:=by simp[getObj,Sem.run,h1]
         have wu:∀ o,(setObj r' o).run P w = .ok () { w with heap:=w.heap.setIfInBounds r' o }:=fun o=>by simp[setObj,Sem.run,h1]
         cases Mw:bN P kd k es 0 with
         |none=>exact ah.fail
         |some q=>
          rcases jj hk Bn hsk h2 Mw with ⟨rfl,h3⟩ | ⟨j,u,u',e',rfl,h3,h4,h5,h6⟩
          ·dsimp only
           have hsame:({ w with heap:=w.heap.setIfInBounds r' (.map aK clk) }:World)=w:=by
            have:w.heap.setIfInBounds r' (.map aK clk)=w.heap:=by
             apply Array.ext_getElem?
             intro i
             by_cases hi:i=r'
             ·subst hi;rw[h1];simp[cm h1]
             ·rw[Array.getElem?_setIfInBounds_ne (Ne.symm hi)]
            rw[this]
           refine ah.ok hS (b := .tuple #[]) ?_ (.tuple _ _ .nil)
           simp[Builtin.delete_,az hd,sX,ey hk Bn hsk,h3,wu,hsame]
          ·simp only[Nat.zero_add] at h3 ⊢
           refine ah.set (w':={ w with heap:=w.heap.setIfInBounds r' (.map (aK.eraseIdxIfInBounds j) clk) }) (e':=pure (.tuple #[])) ?_
            (ah.ok (hS.wG hB hr _ (by
             have:=h2.eraseIdx j
             simpa using this)) rfl (.tuple _ _ .nil))
           simp[Builtin.delete_,az hd,sX,ey hk Bn hsk,h3,wu]
        ·exact ah.fail
      ·exact ah.fail
     ·exact ah.fail
 ·exact ah.fail
theorem Bo {ts:Array TypeId} {ty:TypeId} {args args':List Value} (ha:aD Γ args args'):dZ P Γ (Ik P ts.toList args) (Builtin.len_ ts ty ⟨args'⟩) ay:=by
 intro W h n w hS
 unfold Ik
 split
 ·rename_i t tr x xr hts
  obtain⟨tl⟩:=ts
  obtain rfl:tl=t::tr:=hts
  cases ha with
  |cons _ x' _ xr' hx ha=>
   split
   ·rename_i s hd
    cases hx
    exact ah.ok hS (b := .int .i64 s.size) (by simp[Builtin.len_,az hd,goInt]) (.int _ _)
   ·rename_i _ m e hd
    exact ah.ok hS (b := .int .i64 m) (by simp[Builtin.len_,az hd,goInt]) (.int _ _)
   ·rename_i _ arr hd
    split
    ·rename_i m e hd2
     exact ah.ok hS (b := .int .i64 m) (by simp[Builtin.len_,az hd,az hd2,goInt]) (.int _ _)
    ·exact ah.fail
   ·rename_i e a m c hd
    cases hx with
    |nilslice=>exact ah.ok hS (b := .int .i64 m) (by simp[Builtin.len_,az hd,goInt]) (.int _ _)
    |slice=>exact ah.ok hS (b := .int .i64 m) (by simp[Builtin.len_,az hd,goInt]) (.int _ _)
   ·rename_i _ k e hd
    unfold kC
    split
    ·cases hx
     exact ah.ok hS (b := .int .i64 (0:Nat)) (by simp[Builtin.len_,az hd,goInt]) (.int _ _)
    ·rename_i r
     cases hx with
     |map _ r' hr=>
      refine ah.get fun B hB=>?_
      cases B with
      |cells=>exact ah.fail
      |iter=>exact ah.fail
      |loop=>exact ah.fail
      |deferred=>exact ah.fail
      |map es clk=>
       obtain⟨b,s,e,⟨rfl,aK,h1,h2⟩,_⟩:=hS.live _ _ hB
       rw[hr] at e
       obtain⟨rfl,_⟩:r'=b∧0=0:=by simpa using e
       have sX:(getObj r').run P w = .ok (.map aK clk) w:=by simp[getObj,Sem.run,h1]
       have hlen:aK.size=es.length:=by simpa using h2.length
       exact ah.ok hS (b := .int .i64 es.length) (by simp[Builtin.len_,az hd,goInt,sX,hlen]) (.int _ _)
    ·exact ah.fail
   ·exact ah.fail
 ·exact ah.fail
theorem Bp {ts:Array TypeId} {ty:TypeId} {args args':List Value} (ha:aD Γ args args'):dZ P Γ (Il P ts.toList args) (Builtin.cap_ ts ty ⟨args'⟩) ay:=by
 intro W h n w hS
 unfold Il
 split
 ·rename_i t tr x xr hts
  obtain⟨tl⟩:=ts
  obtain rfl:tl=t::tr:=hts
  cases ha with
  |cons _ x' _ xr' hx ha=>
   split
   ·rename_i _ m e hd
    exact ah.ok hS (b := .int .i64 m) (by simp[Builtin.cap_,az hd,goInt]) (.int _ _)
   ·rename_i e a m c hd
    cases hi:Nat.ble aA c with
    |true=>exact ah.fail
    |false=>
     have dN: ¬ aA≤c:=fun hle=>by rw[Nat.ble_eq_true_of_le hle] at hi;exact Bool.noConfusion hi
     cases hx with
     |nilslice=>exact ah.ok hS (b := .int .i64 c) (by simp[Builtin.cap_,az hd,goInt]) (.int _ _)
     |slice _ _ _ _ c' _ hc=>
      unfold aV.cap at hc
      rw[if_neg dN] at hc
      subst hc
      exact ah.ok hS (b := .int .i64 c') (by simp[Builtin.cap_,az hd,goInt]) (.int _ _)
   ·exact ah.fail
 ·exact ah.fail
theorem lE (mx:Bool):∀ (r r':List Value) (x x' v:Value),ay Γ x x'→aD Γ r r'→nB mx x r=some v→
  ∃ v',(∀ w,(r'.foldlM (if mx then Builtin.max2 else Builtin.min2) x').run P w = .ok v' w)∧ay Γ v v'
 | [],r',x,x',v,hx,hr,e=>by
  cases hr
  obtain rfl:x=v:=by simpa [nB] using e
  exact⟨x',fun w=>rfl,hx⟩
 |y::r,r',x,x',v,hx,hr,e=>by
  cases hr with
  |cons _ y' _ r' hy hr=>
   unfold nB at e
   split at e
   ·rename_i heq;simp at heq
   ·rename_i k a k' b rr heq
    obtain⟨rfl,rfl⟩:y = .int k' b∧r=rr:=by simpa using heq
    cases hx;cases hy
    obtain⟨v',hrun,hv⟩:=lE mx r r' _ _ v (.int _ _) hr e
    refine⟨v',fun w=>?_,hv⟩
    rw[←hrun w]
    cases mx
    ·simp[Builtin.min2]
    ·simp[Builtin.max2]
   ·simp at e
theorem zv {ts:Array TypeId} {ty:TypeId} {args args':List Value} (ha:aD Γ args args'):dZ P Γ (Bd P ts.toList args) (Builtin.copy_ ts ty ⟨args'⟩) ay:=by
 intro W h n w hS
 unfold Bd
 split
 ·rename_i t tr base len cap x hts
  obtain⟨tl⟩:=ts
  obtain rfl:tl=t::tr:=hts
  cases ha with
  |cons _ d' _ _ hd' ha=>
   cases ha with
   |cons _ x' _ _ hx ha=>
    cases ha
    split
    ·rename_i e hd
     split
     ·rename_i i a b m c hi
      cases hd' with
      |slice _ a' _ _ dc' TJ hca=>
       cases hx with
       |slice _ b' _ _ sc' TK hcb=>
        have hmin:Nat.min m len=min m len:=rfl
        cases KW:Nat.beq (min m len) 0 with
        |true=>
         have KW:=beq_true KW
         refine ah.ok hS (b := .int .i64 0) ?_ (.int _ _)
         simp only[Builtin.copy_,List.getElem?_toArray,List.getElem?_cons_zero,List.getElem?_cons_succ,Sem.run_bind,az hd,Result.andThen_ok,Builtin.lenOf,Sem.run_pure,bn hi,Builtin.firstCells,hmin,KW]
         simp[loadCells,loadCellsFrom,storeCells,goInt]
        |false=>
         have KW:min m len≠0:=fun e=>by rw[e] at KW;exact Bool.noConfusion KW
         have jQ:=TJ.exact (.inl (by omega))
         have wm:=TK.exact (.inl (by omega))
         simp only[cond_false]
         refine ah.get fun B hB=>?_
         split
         ·rename_i cc ro
          split
          ·rename_i l hl
           obtain⟨l',hl',hrl⟩:=fB (P:=P) hS hB wm rfl hl
           refine ah.get fun D hD=>?_
           split
           ·rename_i dd
            split
            ·rename_i d2 hd2
             obtain⟨w',hr,gj⟩:=dI (P:=P) (i:=a.block) (a:=a) (a':=a') rfl l l' dd d2 0 h w jQ hS hD hl' (by simpa using hd2)
             refine ah.set (w':=w') (e':=pure (.int .i64 (min m len:Nat))) ?_ (ah.ok gj rfl (.int _ _))
             simp only[Builtin.copy_,List.getElem?_toArray,List.getElem?_cons_zero,List.getElem?_cons_succ,Sem.run_bind,az hd,Result.andThen_ok,Builtin.lenOf,Sem.run_pure,bn hi,Builtin.firstCells,hmin,hrl]
             simp[hr,goInt]
            ·exact ah.fail
           ·exact ah.fail
          ·exact ah.fail
         ·exact ah.fail
     ·rename_i i a m c hi
      cases hl0:Nat.beq len 0 with
      |false=>exact ah.fail
      |true=>
       obtain rfl:=beq_true hl0
       cases hd'
       refine ah.ok hS (b := .int .i64 0) ?_ (.int _ _)
       have hmin:∀ m,Nat.min m 0=0:=fun m=>Nat.min_zero m
       cases hx with
       |nilslice=>simp[Builtin.copy_,az hd,Builtin.lenOf,bn hi,Builtin.firstCells,goInt,hmin]
       |slice=>simp[Builtin.copy_,az hd,Builtin.lenOf,bn hi,Builtin.firstCells,goInt,hmin,loadCells,loadCellsFrom]
     ·rename_i i a m c hi
      cases hd' with
      |slice _ a' _ _ dc' jQ hca=>
       cases hx
       refine ah.ok hS (b := .int .i64 (min m len:Nat)) ?_ (.int _ _)
       have hmin:Nat.min m len=min m len:=rfl
       simp[Builtin.copy_,az hd,Builtin.lenOf,bn hi,Builtin.firstCells,goInt,hmin,storeCells]
     ·exact ah.fail
    ·exact ah.fail
 ·exact ah.fail
end
end Go.Am
