/-
  The abstract machine: the operations' simulations: maps, len, cap, copy, min, max; receivers and methods; the call's target.
-/
import Derived.Test.YtofmbmclopgldaaGreatAmL
set_option linter.unusedSimpArgs false
set_option linter.unusedVariables false
namespace Go.Am
open Go.RowKit
section
variable {P:Program} {Γ:br} {W w:World} {h:PT ak} {n:Nat}
theorem vJ {t:TypeId} {v v':Option Value} (hv:qT Γ v v'):fD P Γ (lB P t v) (Instr.makeMap t v') aA:=by
 intro W h n w hS
 have key:∀ e:Sem Value,e.run P w = .ok (.map (some w.heap.size)) (w.alloc (.map #[] 0))→aj P Γ W h n w (.new (.map [] 0) fun id => .pure (.map (some id))) e aA:=by
  intro e he
  refine aj.new fun hn=>?_
  obtain⟨aS,hst,hb,iO⟩:=hS.gL hn (.map #[] 0) (.map [] 0) rfl (fun aS w' _ h1=>⟨rfl,#[],h1,.nil⟩)
  exact⟨aS,_,pure (.map (some w.heap.size)),hst,he,aj.ok iO rfl (.map _ _ hb)⟩
 unfold lB
 cases hv with
 |no=>exact key _ (by simp[Instr.makeMap])
 |yes a b hab=>
  dsimp only
  split
  ·rename_i k e kd i hd
   cases hab
   exact key _ (by simp[Instr.makeMap,az hd,asInt,asIntOf])
  ·exact aj.fail
theorem jv {d:TypeDesc} {k e k' e':Value} (hk:aA Γ k k') (he:aA Γ e e') {b:Bool} (h:Instr.sameNow d k e=some b):Instr.sameNow d k' e'=some b:=by
 unfold Instr.sameNow at h
 split at h
 ·cases hk;cases he;exact h
 ·cases hk;cases he;exact h
 ·cases hk;cases he;exact h
 ·simp at h
theorem oz {d:TypeDesc} {k k':Value} (hk:aA Γ k k'):∀ (es:List (Value×Value×Nat)) (aU:List MapEntry) (i:Nat) (r:Option (Nat×Value)),bF Γ es aU→iY d k es i=some r→
  (r=none∧Instr.findNow d k' aU i=some none)∨(∃ j v v' e,r=some (i+j,v)∧Instr.findNow d k' aU i=some (some (i+j,v'))∧aA Γ v v'∧aU[j]? = some e∧Instr.sameNow d k' e.key=some true)
 | [],aU,i,r,hp,h=>by
  cases hp
  simp only[iY,Option.some.injEq] at h
  exact .inl ⟨h.symm,rfl⟩
 |p::es,aU,i,r,hp,h=>by
  cases hp with
  |cons _ e _ aU hkk Sb Ij ht=>
   simp only[iY] at h
   split at h
   ·rename_i hs
    have hs':=jv hk hkk hs
    refine .inr ⟨0,p.2.1,e.val,e,by simpa using h.symm,?_,Sb,rfl,hs'⟩
    simp[Instr.findNow,hs']
   ·rename_i hs
    have hs':=jv hk hkk hs
    rcases oz hk es aU (i+1) r ht h with ⟨h1,h2⟩ | ⟨j,v,v',e',h1,h2,h3,h4,h5⟩
    ·exact .inl ⟨h1,by simp[Instr.findNow,hs',h2]⟩
    ·refine .inr ⟨j+1,v,v',e',by rw[h1];congr 2;omega,?_,h3,by simpa using h4,h5⟩
     simp only[Instr.findNow,hs',h2]
     congr 3;omega
   ·simp at h
theorem oA {kt:TypeId} {kd:TypeDesc} (hd:P.underlying kt=some kd) (hs:simpleKey kd=true) (empty:Bool) (m:Nat) (v:Value) (w:World):(Instr.checkKey empty (m+1) kt v).run P w = .ok () w:=by
 cases kd<;>first | (simp[simpleKey] at hs;done) |simp[Instr.checkKey,az hd]
theorem Aa {l:List Field} (body:Field→PUnit→Sem (ForInStep PUnit)) (hb:∀ f∈l,∀ w,(body f ⟨⟩).run P w = .ok (.yield ⟨⟩) w) (w:World):(forIn l (⟨⟩:PUnit) body:Sem PUnit).run P w = .ok ⟨⟩ w:=by
 induction l with
 |nil=>simp
 |cons f l ih=>
  rw[List.forIn_cons]
  simp only[Sem.run_bind,hb f List.mem_cons_self,Result.andThen_ok]
  exact ih fun f hf=>hb f (List.mem_cons_of_mem _ hf)
theorem fQ {kt:TypeId} {kd:TypeDesc} {k k':Value} (hk:aA Γ k k') (hd:P.underlying kt=some kd) (hs:lz P kt kd k=true) (empty:Bool) (w:World):(Instr.checkKey empty 10000 kt k').run P w = .ok () w:=by
 unfold lz at hs
 split at hs
 ·rename_i fs cs
  cases hk with
  |agg l l' hl=>
   simp only[Bool.and_eq_true] at hs
   have hf:=hs.2
   unfold BJ at hf
   rw[List.all_eq_true] at hf
   rw[show (10000:Nat)=9998+1+1 from rfl,Instr.checkKey]
   simp only[Sem.run_bind,az hd,Result.andThen_ok]
   rw[←Array.forIn_toList]
   rw[Aa (P:=P) _ ?_ w]
   ·simp
   ·intro f hfm w
    have:=hf f hfm
    split at this
    ·rename_i d v h1 h2
     obtain⟨v',hp,-⟩:=fq hl h2
     by_cases hn:f.name = "_"
     ·simp[hn]
     ·simp[hn,hp,oA h1 this]
    ·simp at this
 ·exact oA hd hs empty 9999 k' w
theorem qo {D:Nat} {t:TypeId} {d:TypeDesc} {a b:Value} {q:Bool} (hd:P.underlying t=some d) (h:Instr.sameNow d a b=some q) (w:World):(Op.equalIn (D+1) t a b).run P w = .ok q w:=by
 unfold Instr.sameNow at h
 split at h
 ·split at h
  ·rename_i hk
   subst hk
   simp only[Option.some.injEq] at h
   subst h
   simp[Op.equalIn,az hd]
  ·simp at h
 ·simp only[Option.some.injEq] at h
  subst h
  simp[Op.equalIn,az hd]
 ·simp only[Option.some.injEq] at h
  subst h
  simp[Op.equalIn,az hd]
 ·simp at h
theorem nN (D:Nat) {xs ys xs' ys':List Value} (hx:aF Γ xs xs') (hy:aF Γ ys ys'):∀ (fs:List Field) (b:Bool),nL P xs ys fs=some b→∀ w,(Op.eqFields (D+1) ⟨xs'⟩ ⟨ys'⟩ fs).run P w = .ok b w
 | [],b,h,w=>by
  simp only[nL,Option.some.injEq] at h
  subst h
  simp[Op.eqFields]
 |f::fs,b,h,w=>by
  unfold nL at h
  unfold Op.eqFields
  split at h
  ·rename_i hn
   split at h
   ·rename_i d p q hd hp hq
    obtain⟨p',hrp,hvp⟩:=fq hx hp
    obtain⟨q',hrq,hvq⟩:=fq hy hq
    split at h
    ·rename_i hs
     have:=qo (D:=D) hd (jv hvp hvq hs) w
     have ih:=nN D hx hy fs b h w
     simp[hn,hrp,hrq,this,ih]
    ·rename_i hs
     have:=qo (D:=D) hd (jv hvp hvq hs) w
     simp only[Option.some.injEq] at h
     subst h
     simp[hn,hrp,hrq,this]
    ·simp at h
   ·simp at h
  ·rename_i hn
   have ih:=nN D hx hy fs b h w
   have hn':f.name = "_":=by simpa using hn
   simp[hn',ih]
theorem oB {kt:TypeId} {fs:Array Field} {xs xs':List Value} (hd:P.underlying kt=some (.struct fs)) (hst:P.stoodInHeld kt=false) (hx:aF Γ xs xs'):∀ (es:List (Value×Value×Nat)) (aU:List MapEntry) (i:Nat) (r:Option (Nat×Value)),bF Γ es aU→lu P fs.toList xs es i=some r→
  (r=none∧∀ w,(Instr.findAsking kt (.agg ⟨xs'⟩) aU i).run P w = .ok none w)∨(∃ j v v' e,r=some (i+j,v)∧(∀ w,(Instr.findAsking kt (.agg ⟨xs'⟩) aU i).run P w = .ok (some (i+j,v')) w)∧aA Γ v v'∧aU[j]? = some e)
 | [],aU,i,r,hp,h=>by
  cases hp
  simp only[lu,Option.some.injEq] at h
  exact .inl ⟨h.symm,fun w=>by simp[Instr.findAsking]⟩
 |p::es,aU,i,r,hp,h=>by
  cases hp with
  |cons _ e _ aU hkk Sb Ij ht=>
   simp only[lu] at h
   split at h
   ·rename_i ys hpe
    rw[hpe] at hkk
    cases hek:e.key with
    |agg ys'=>
     rw[hek] at hkk
     obtain⟨yl⟩:=ys'
     obtain⟨ysl⟩:=ys
     cases hkk with
     |agg _ _ hy=>
      have hfo:P.fieldsOf kt=fs:=by simp[Program.fieldsOf,hd]
      have hrun:∀ b,nL P xs ysl fs.toList=some b→∀ w,(Op.equal kt (.agg ⟨xs'⟩) e.key).run P w = .ok b w:=fun b hb w=>by
       have:=nN 9998 hx hy fs.toList b hb w
       rw[hek,show Op.equal kt (.agg ⟨xs'⟩) (.agg ⟨yl⟩)=Op.equalIn (9999+1) kt (.agg ⟨xs'⟩) (.agg ⟨yl⟩) from rfl,run_equalIn_struct w 9999 kt _ _ (by rw[hfo];exact hd) hst,hfo]
       exact this
      split at h
      ·rename_i hs
       refine .inr ⟨0,p.2.1,e.val,e,by simpa using h.symm,fun w=>?_,Sb,rfl⟩
       simp[Instr.findAsking,hrun _ hs]
      ·rename_i hs
       rcases oB hd hst hx es aU (i+1) r ht h with ⟨h1,h2⟩ | ⟨j,v,v',e',h1,h2,h3,h4⟩
       ·exact .inl ⟨h1,fun w=>by simp[Instr.findAsking,hrun _ hs,h2]⟩
       ·refine .inr ⟨j+1,v,v',e',by rw[h1];congr 2;omega,fun w=>?_,h3,by simpa using h4⟩
        rw[show i+(j+1)=i+1+j by omega]
        simp only[Instr.findAsking,Sem.run_bind,hrun _ hs,Result.andThen_ok,h2,Bool.false_eq_true,if_false]
      ·simp at h
    | _=>rw[hek] at hkk;cases hkk
   ·simp at h
theorem j_ {kt:TypeId} {kd:TypeDesc} {k k':Value} (hk:aA Γ k k') (hd:P.underlying kt=some kd) (hs:lz P kt kd k=true) {es:List (Value×Value×Nat)} {aU:List MapEntry} {r:Option (Nat×Value)} (hp:bF Γ es aU) (h:cH P kd k es 0=some r):
  (r=none∧∀ w,(Instr.findKey kt k' aU).run P w = .ok none w)∨(∃ j v v' e,r=some (j,v)∧(∀ w,(Instr.findKey kt k' aU).run P w = .ok (some (j,v')) w)∧aA Γ v v'∧aU[j]? = some e∧(simpleKey kd=true→Instr.sameNow kd k' e.key=some true)):=by
 unfold cH at h
 unfold lz at hs
 split at h
 ·rename_i fs cs
  cases hk with
  |agg l l' hl=>
   simp only[Bool.and_eq_true,Bool.not_eq_true'] at hs
   have Sc:∀ w,(Instr.findKey kt (.agg ⟨l'⟩) aU).run P w=(Instr.findAsking kt (.agg ⟨l'⟩) aU 0).run P w:=fun w=>by
    unfold Instr.findKey
    simp only[Sem.run_bind,az hd,Result.andThen_ok]
    cases aU with
    |nil=>simp[Instr.findNow,Instr.findAsking]
    |cons e es=>simp[Instr.findNow,Instr.sameNow]
   rcases oB hd hs.1 hl es aU 0 r hp h with ⟨h1,h2⟩ | ⟨j,v,v',e,h1,h2,h3,h4⟩
   ·exact .inl ⟨h1,fun w=>by rw[Sc,h2]⟩
   ·exact .inr ⟨j,v,v',e,by rw[h1,Nat.zero_add],fun w=>by rw[Sc,h2,Nat.zero_add],h3,h4,fun q=>by simp[simpleKey] at q⟩
 ·have Sc:∀ q,Instr.findNow kd k' aU 0=some q→∀ w,(Instr.findKey kt k' aU).run P w = .ok q w:=fun q hq w=>by
   unfold Instr.findKey
   simp only[Sem.run_bind,az hd,Result.andThen_ok,hq]
   simp
  rcases oz hk es aU 0 r hp h with ⟨h1,h2⟩ | ⟨j,v,v',e',h1,h2,h3,h4,h5⟩
  ·exact .inl ⟨h1,Sc _ h2⟩
  ·exact .inr ⟨j,v,v',e',by rw[h1,Nat.zero_add],fun w=>by rw[Sc _ h2,Nat.zero_add],h3,h4,fun _=>h5⟩
theorem xF {t:TypeId} {x x' k k':Value} {ok:Bool} (hx:aA Γ x x') (hk:aA Γ k k'):fD P Γ (jY P t x k ok) (Instr.lookup t x' k' ok) aA:=by
 intro W h n w hS
 unfold jY
 split
 ·rename_i kt et hd
  split
  ·rename_i kd EH
   cases hsk:lz P kt kd k with
   |false=>exact aj.fail
   |true=>
    simp only[cond_true]
    have main:∀ (es:List (Value×Value×Nat)) (aU:Array MapEntry),bF Γ es aU.toList→
      ((x' = .map none∧aU=#[])∨∃ r clk,x' = .map (some r)∧(getObj r).run P w = .ok (.map aU clk) w)→
      aj P Γ W h n w (match cH P kd k es 0 with
       |some (some (_,v)) => .pure (cond ok (.tuple ⟨[v,.bool true]⟩) v)
       |some none=>match zeroOf P et with
        |some z => .pure (cond ok (.tuple ⟨[z,.bool false]⟩) z)
        |none => .fail "lookup"
       |none => .fail "lookup") (Instr.lookup t x' k' ok) aA:=by
     intro es aU hp hrun
     have LG:∀ r',(∀ w,(Instr.findKey kt k' aU.toList).run P w = .ok r' w)→(Instr.lookup t x' k' ok).run P w=(do
       let (v,ok') ←match r' with
        |some (_,v)=>pure (v,true)
        |none=>pure (←zeroValue et,false)
       pure (if ok then .tuple #[v,.bool ok'] else v):Sem Value).run P w:=by
      intro r' hr'
      unfold Instr.lookup
      simp only[Sem.run_bind,az hd,Result.andThen_ok]
      rcases hrun with ⟨rfl,rfl⟩ | ⟨r,clk,rfl,vK⟩
      ·simp only[Sem.run_bind,Sem.run_pure,fQ hk EH hsk,Result.andThen_ok,hr']
       cases r'<;>rfl
      ·simp only[Sem.run_bind,vK,Sem.run_pure,fQ hk EH hsk,Result.andThen_ok,hr']
       cases r'<;>rfl
     cases Sd:cH P kd k es 0 with
     |none=>exact aj.fail
     |some r=>
      rcases j_ hk EH hsk hp Sd with ⟨rfl,h2⟩ | ⟨j,v,v',e',rfl,h2,h3,_,_⟩
      ·dsimp only
       split
       ·rename_i z hz
        obtain⟨xl,xB⟩:=cM hz
        refine aj.ok hS (b:=if ok then .tuple #[z,.bool false] else z) ?_ ?_
        ·rw[LG _ h2];simp[xl]
        ·cases ok
         ·exact xB Γ
         ·exact .tuple _ _ (.cons _ _ _ _ (xB Γ) (.cons _ _ _ _ (.bool _) .nil))
       ·exact aj.fail
      ·dsimp only
       refine aj.ok hS (b:=if ok then .tuple #[v',.bool true] else v') ?_ ?_
       ·rw[LG _ h2];simp
       ·cases ok
        ·exact h3
        ·exact .tuple _ _ (.cons _ _ _ _ h3 (.cons _ _ _ _ (.bool _) .nil))
    unfold mG
    split
    ·cases hx
     exact main [] #[] .nil (.inl ⟨rfl,rfl⟩)
    ·rename_i r
     cases hx with
     |map _ r' hr=>
      refine aj.get fun B hB=>?_
      cases B with
      |cells=>exact aj.fail
      |iter=>exact aj.fail
      |loop=>exact aj.fail
      |deferred=>exact aj.fail
      |map es clk=>
       obtain⟨b,s,e,⟨rfl,aU,h1,h2⟩,_⟩:=hS.live _ _ hB
       rw[hr] at e
       obtain⟨rfl,_⟩:r'=b∧0=0:=by simpa using e
       exact main es aU h2 (.inr ⟨r',clk,rfl,by simp[getObj,Sem.run,h1]⟩)
    ·exact aj.fail
  ·exact aj.fail
 ·exact aj.fail
theorem bF.modify {k k' v v':Value} (hk:aA Γ k k') (hv:aA Γ v v'):∀ {es:List (Value×Value×Nat)} {aU:List MapEntry} (j:Nat),bF Γ es aU→
  bF Γ (ey k v es j) (aU.modify j fun e=>{ e with key:=k',val:=v' })
 | _,_,0,.nil => .nil
 | _,_,_+1,.nil => .nil
 | _,_,0,.cons p e l l' h1 h2 hb t=>by simpa [ey] using .cons _ _ _ _ hk hv hb t
 | _,_,j+1,.cons p e l l' h1 h2 hb t=>by
  have:=bF.modify hk hv j t
  simpa [ey] using .cons p e _ _ h1 h2 hb this
theorem nj {d:TypeDesc} {a b:Value} (h:Instr.sameNow d a b=some true) (m:Nat):Instr.sameBits m b a=true:=by
 unfold Instr.sameNow at h
 split at h
 ·split at h
  ·rename_i hk
   subst hk
   simp only[Option.some.injEq,beq_iff_eq] at h
   subst h
   simp[Instr.sameBits]
  ·simp at h
 ·simp only[Option.some.injEq] at h
  rw[beq_toListBytes] at h
  have h':=eq_of_beq h
  simp[Instr.sameBits,beq_toListBytes,h']
 ·simp only[Option.some.injEq,beq_iff_eq] at h
  subst h
  simp[Instr.sameBits]
 ·simp at h
theorem lI {t:TypeId} {x x' k k' v v':Value} (hx:aA Γ x x') (hk:aA Γ k k') (hv:aA Γ v v'):fD P Γ (ez P t x k v) (Instr.mapUpdate t x' k' v') (fun _ _ _=>True):=by
 intro W h n w hS
 unfold ez
 split
 ·rename_i kt et r hd
  split
  ·rename_i kd EH
   cases hsk:lz P kt kd k with
   |false=>exact aj.fail
   |true=>
    simp only[cond_true]
    cases hx with
    |map _ r' hr=>
     refine aj.get fun B hB=>?_
     split
     ·rename_i es clk
      obtain⟨b,s,e,⟨rfl,aU,h1,h2⟩,_⟩:=hS.live _ _ hB
      rw[hr] at e
      obtain⟨rfl,_⟩:r'=b∧0=0:=by simpa using e
      have vK:(getObj r').run P w = .ok (.map aU clk) w:=by simp[getObj,Sem.run,h1]
      have zH:∀ o,(setObj r' o).run P w = .ok () { w with heap:=w.heap.setIfInBounds r' o }:=fun o=>by simp[setObj,Sem.run,h1]
      cases Sd:cH P kd k es 0 with
      |none=>exact aj.fail
      |some q=>
       rcases j_ hk EH hsk h2 Sd with ⟨rfl,h3⟩ | ⟨j,u,u',e',rfl,h3,h4,h5,h6⟩
       ·dsimp only
        refine aj.set (w':={ w with heap:=w.heap.setIfInBounds r' (.map (aU.push { key:=k',val:=v',born:=clk }) (clk+1)) }) (e':=pure ()) ?_
         (aj.ok (hS.zO hB hr _ (by simpa using h2.append (.cons (k,v,clk) { key:=k',val:=v',born:=clk } _ _ hk hv rfl .nil))) rfl trivial)
        simp[Instr.mapUpdate,az hd,vK,fQ hk EH hsk,h3,zH]
       ·simp only[Nat.zero_add] at h3 ⊢
        have hjl:j<aU.toList.length:=by
         rcases Nat.lt_or_ge j aU.toList.length with hh |hh
         ·exact hh
         ·rw[List.getElem?_eq_none hh] at h5;simp at h5
        cases aaB:simpleKey kd with
        |false=>exact aj.fail
        |true=>
        simp only[cond_true]
        refine aj.set (w':={ w with heap:=w.heap.setIfInBounds r' (.map (aU.modify j fun e=>{ e with key:=k',val:=v' }) clk) }) (e':=pure ()) ?_
         (aj.ok (hS.zO hB hr _ (by
          have:=h2.modify hk hv j
          simpa using this)) rfl trivial)
        have h5':aU[j]? = some e':=by simpa using h5
        have hsb:=nj (h6 aaB) 10000
        simp[Instr.mapUpdate,az hd,vK,fQ hk EH hsk,h3,Instr.keyThatStays,h5',hsb,zH]
     ·exact aj.fail
  ·exact aj.fail
 ·exact aj.fail
theorem bF.eraseIdx:∀ {es:List (Value×Value×Nat)} {aU:List MapEntry} (j:Nat),bF Γ es aU→bF Γ (es.eraseIdx j) (aU.eraseIdx j)
 | _,_,_,.nil=>by simpa using .nil
 | _,_,0,.cons p e l l' h1 h2 hb t=>by simpa using t
 | _,_,j+1,.cons p e l l' h1 h2 hb t=>by simpa using .cons p e _ _ h1 h2 hb (bF.eraseIdx j t)
theorem xG {ts:Array TypeId} {ty:TypeId} {args args':List Value} (ha:aF Γ args args'):fD P Γ (vr P ts.toList args) (Builtin.delete_ ts ty ⟨args'⟩) aA:=by
 intro W h n w hS
 unfold vr
 split
 ·rename_i t tr r k hts
  obtain⟨tl⟩:=ts
  obtain rfl:tl=t::tr:=hts
  cases ha with
  |cons _ m' _ _ hm ha=>
   cases ha with
   |cons _ k' _ _ hk ha=>
    cases ha
    cases hm with
    |map _ r' hr=>
     split
     ·rename_i kt et hd
      split
      ·rename_i kd EH
       cases hsk:lz P kt kd k with
       |false=>exact aj.fail
       |true=>
        simp only[cond_true]
        refine aj.get fun B hB=>?_
        split
        ·rename_i es clk
         obtain⟨b,s,e,⟨rfl,aU,h1,h2⟩,_⟩:=hS.live _ _ hB
         rw[hr] at e
         obtain⟨rfl,_⟩:r'=b∧0=0:=by simpa using e
         have vK:(getObj r').run P w = .ok (.map aU clk) w:=by simp[getObj,Sem.run,h1]
         have zH:∀ o,(setObj r' o).run P w = .ok () { w with heap:=w.heap.setIfInBounds r' o }:=fun o=>by simp[setObj,Sem.run,h1]
         cases Sd:cH P kd k es 0 with
         |none=>exact aj.fail
         |some q=>
          rcases j_ hk EH hsk h2 Sd with ⟨rfl,h3⟩ | ⟨j,u,u',e',rfl,h3,h4,h5,h6⟩
          ·dsimp only
           have hsame:({ w with heap:=w.heap.setIfInBounds r' (.map aU clk) }:World)=w:=by
            have:w.heap.setIfInBounds r' (.map aU clk)=w.heap:=by
             apply Array.ext_getElem?
             intro i
             by_cases hi:i=r'
             ·subst hi;rw[h1];simp[cS h1]
             ·rw[Array.getElem?_setIfInBounds_ne (Ne.symm hi)]
            rw[this]
           refine aj.ok hS (b := .tuple #[]) ?_ (.tuple _ _ .nil)
           simp[Builtin.delete_,az hd,vK,fQ hk EH hsk,h3,zH,hsame]
          ·simp only[Nat.zero_add] at h3 ⊢
           refine aj.set (w':={ w with heap:=w.heap.setIfInBounds r' (.map (aU.eraseIdxIfInBounds j) clk) }) (e':=pure (.tuple #[])) ?_
            (aj.ok (hS.zO hB hr _ (by
             have:=h2.eraseIdx j
             simpa using this)) rfl (.tuple _ _ .nil))
           simp[Builtin.delete_,az hd,vK,fQ hk EH hsk,h3,zH]
        ·exact aj.fail
      ·exact aj.fail
     ·exact aj.fail
 ·exact aj.fail
theorem EI {ts:Array TypeId} {ty:TypeId} {args args':List Value} (ha:aF Γ args args'):fD P Γ (MW P ts.toList args) (Builtin.len_ ts ty ⟨args'⟩) aA:=by
 intro W h n w hS
 unfold MW
 split
 ·rename_i t tr x xr hts
  obtain⟨tl⟩:=ts
  obtain rfl:tl=t::tr:=hts
  cases ha with
  |cons _ x' _ xr' hx ha=>
   split
   ·rename_i s hd
    cases hx
    exact aj.ok hS (b := .int .i64 s.size) (by simp[Builtin.len_,az hd,goInt]) (.int _ _)
   ·rename_i _ m e hd
    exact aj.ok hS (b := .int .i64 m) (by simp[Builtin.len_,az hd,goInt]) (.int _ _)
   ·rename_i _ arr hd
    split
    ·rename_i m e hd2
     exact aj.ok hS (b := .int .i64 m) (by simp[Builtin.len_,az hd,az hd2,goInt]) (.int _ _)
    ·exact aj.fail
   ·rename_i e a m c hd
    cases hx with
    |nilslice=>exact aj.ok hS (b := .int .i64 m) (by simp[Builtin.len_,az hd,goInt]) (.int _ _)
    |slice=>exact aj.ok hS (b := .int .i64 m) (by simp[Builtin.len_,az hd,goInt]) (.int _ _)
   ·rename_i _ k e hd
    unfold mG
    split
    ·cases hx
     exact aj.ok hS (b := .int .i64 (0:Nat)) (by simp[Builtin.len_,az hd,goInt]) (.int _ _)
    ·rename_i r
     cases hx with
     |map _ r' hr=>
      refine aj.get fun B hB=>?_
      cases B with
      |cells=>exact aj.fail
      |iter=>exact aj.fail
      |loop=>exact aj.fail
      |deferred=>exact aj.fail
      |map es clk=>
       obtain⟨b,s,e,⟨rfl,aU,h1,h2⟩,_⟩:=hS.live _ _ hB
       rw[hr] at e
       obtain⟨rfl,_⟩:r'=b∧0=0:=by simpa using e
       have vK:(getObj r').run P w = .ok (.map aU clk) w:=by simp[getObj,Sem.run,h1]
       have hlen:aU.size=es.length:=by simpa using h2.length
       exact aj.ok hS (b := .int .i64 es.length) (by simp[Builtin.len_,az hd,goInt,vK,hlen]) (.int _ _)
    ·exact aj.fail
   ·exact aj.fail
 ·exact aj.fail
theorem EJ {ts:Array TypeId} {ty:TypeId} {args args':List Value} (ha:aF Γ args args'):fD P Γ (MX P ts.toList args) (Builtin.cap_ ts ty ⟨args'⟩) aA:=by
 intro W h n w hS
 unfold MX
 split
 ·rename_i t tr x xr hts
  obtain⟨tl⟩:=ts
  obtain rfl:tl=t::tr:=hts
  cases ha with
  |cons _ x' _ xr' hx ha=>
   split
   ·rename_i _ m e hd
    exact aj.ok hS (b := .int .i64 m) (by simp[Builtin.cap_,az hd,goInt]) (.int _ _)
   ·rename_i e a m c hd
    cases hi:Nat.ble aB c with
    |true=>exact aj.fail
    |false=>
     have eT: ¬ aB≤c:=fun hle=>by rw[Nat.ble_eq_true_of_le hle] at hi;exact Bool.noConfusion hi
     cases hx with
     |nilslice=>exact aj.ok hS (b := .int .i64 c) (by simp[Builtin.cap_,az hd,goInt]) (.int _ _)
     |slice _ _ _ _ c' _ hc=>
      unfold br.cap at hc
      rw[if_neg eT] at hc
      subst hc
      exact aj.ok hS (b := .int .i64 c') (by simp[Builtin.cap_,az hd,goInt]) (.int _ _)
   ·exact aj.fail
 ·exact aj.fail
theorem nO (mx:Bool):∀ (r r':List Value) (x x' v:Value),aA Γ x x'→aF Γ r r'→pg mx x r=some v→
  ∃ v',(∀ w,(r'.foldlM (if mx then Builtin.max2 else Builtin.min2) x').run P w = .ok v' w)∧aA Γ v v'
 | [],r',x,x',v,hx,hr,e=>by
  cases hr
  obtain rfl:x=v:=by simpa [pg] using e
  exact⟨x',fun w=>rfl,hx⟩
 |y::r,r',x,x',v,hx,hr,e=>by
  cases hr with
  |cons _ y' _ r' hy hr=>
   unfold pg at e
   split at e
   ·rename_i heq;simp at heq
   ·rename_i k a k' b rr heq
    obtain⟨rfl,rfl⟩:y = .int k' b∧r=rr:=by simpa using heq
    cases hx;cases hy
    obtain⟨v',hrun,hv⟩:=nO mx r r' _ _ v (.int _ _) hr e
    refine⟨v',fun w=>?_,hv⟩
    rw[←hrun w]
    cases mx
    ·simp[Builtin.min2]
    ·simp[Builtin.max2]
   ·simp at e
theorem CK {ts:Array TypeId} {ty:TypeId} {args args':List Value} (ha:aF Γ args args'):fD P Γ (Ew P ts.toList args) (Builtin.copy_ ts ty ⟨args'⟩) aA:=by
 intro W h n w hS
 unfold Ew
 split
 ·rename_i t tr base len cap x hts
  obtain⟨tl⟩:=ts
  obtain rfl:tl=t::tr:=hts
  cases ha with
  |cons _ d' _ _ hd' ha=>
   cases ha with
   |cons _ x' _ _ hx ha=>
    cases ha
    split
    ·rename_i e hd
     split
     ·rename_i i a b m c hi
      cases hd' with
      |slice _ a' _ _ dc' aaC hca=>
       cases hx with
       |slice _ b' _ _ sc' aaD hcb=>
        have hmin:Nat.min m len=min m len:=rfl
        cases I3:Nat.beq (min m len) 0 with
        |true=>
         have I3:=beq_true I3
         refine aj.ok hS (b := .int .i64 0) ?_ (.int _ _)
         simp only[Builtin.copy_,List.getElem?_toArray,List.getElem?_cons_zero,List.getElem?_cons_succ,Sem.run_bind,az hd,Result.andThen_ok,Builtin.lenOf,Sem.run_pure,bz hi,Builtin.firstCells,hmin,I3]
         simp[loadCells,loadCellsFrom,storeCells,goInt]
        |false=>
         have I3:min m len≠0:=fun e=>by rw[e] at I3;exact Bool.noConfusion I3
         have lH:=aaC.exact (.inl (by omega))
         have Ij:=aaD.exact (.inl (by omega))
         simp only[cond_false]
         refine aj.get fun B hB=>?_
         split
         ·rename_i cc ro
          split
          ·rename_i l hl
           obtain⟨l',hl',hrl⟩:=gT (P:=P) hS hB Ij rfl hl
           refine aj.get fun D hD=>?_
           split
           ·rename_i dd
            split
            ·rename_i d2 hd2
             obtain⟨w',hr,iO⟩:=eL (P:=P) (i:=a.block) (a:=a) (a':=a') rfl l l' dd d2 0 h w lH hS hD hl' (by simpa using hd2)
             refine aj.set (w':=w') (e':=pure (.int .i64 (min m len:Nat))) ?_ (aj.ok iO rfl (.int _ _))
             simp only[Builtin.copy_,List.getElem?_toArray,List.getElem?_cons_zero,List.getElem?_cons_succ,Sem.run_bind,az hd,Result.andThen_ok,Builtin.lenOf,Sem.run_pure,bz hi,Builtin.firstCells,hmin,hrl]
             simp[hr,goInt]
            ·exact aj.fail
           ·exact aj.fail
          ·exact aj.fail
         ·exact aj.fail
     ·rename_i i a m c hi
      cases hl0:Nat.beq len 0 with
      |false=>exact aj.fail
      |true=>
       obtain rfl:=beq_true hl0
       cases hd'
       refine aj.ok hS (b := .int .i64 0) ?_ (.int _ _)
       have hmin:∀ m,Nat.min m 0=0:=fun m=>Nat.min_zero m
       cases hx with
       |nilslice=>simp[Builtin.copy_,az hd,Builtin.lenOf,bz hi,Builtin.firstCells,goInt,hmin]
       |slice=>simp[Builtin.copy_,az hd,Builtin.lenOf,bz hi,Builtin.firstCells,goInt,hmin,loadCells,loadCellsFrom]
     ·rename_i i a m c hi
      cases hd' with
      |slice _ a' _ _ dc' lH hca=>
       cases hx
       refine aj.ok hS (b := .int .i64 (min m len:Nat)) ?_ (.int _ _)
       have hmin:Nat.min m len=min m len:=rfl
       simp[Builtin.copy_,az hd,Builtin.lenOf,bz hi,Builtin.firstCells,goInt,hmin,storeCells]
     ·exact aj.fail
    ·exact aj.fail
 ·exact aj.fail
end
end Go.Am
