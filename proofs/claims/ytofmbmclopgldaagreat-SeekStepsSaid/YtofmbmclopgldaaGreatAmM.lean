/-
A part.
-/
import Derived.Test.YtofmbmclopgldaaGreatAmL
set_option linter.all false
namespace Go.Am
open Go.RowKit
section
variable {P:Program} {Γ:bL} {W w:World} {h:PT aj} {n:Nat}
theorem Bl{t:TypeId}{v v':Option Value}(hv:vB Γ v v'):iA P Γ (oC P t v) (Instr.makeMap t v') aD:=by
 intro W h n w hS;have key:∀ e:Sem Value,e.run P w = .ok (.map (some w.heap.size)) (w.alloc (.map #[] 0))→ak P Γ W h n w (.new (.map [] 0) fun id => .pure (.map (some id))) e aD:=by
  intro e he;refine ak.new fun hn=>?_;obtain⟨aY,hst,hb,ku⟩:=hS.jw hn (.map #[] 0) (.map [] 0) rfl (fun aY w' _ h1=>⟨rfl,#[],h1,.nil⟩);exact⟨aY,_,pure (.map (some w.heap.size)),hst,he,ak.ok ku rfl (.map _ _ hb)⟩
 unfold oC;cases hv with
 |no=>exact key _ (by simp[Instr.makeMap])
 |yes a b hab=>
  dsimp only;split
  ·rename_i k e kd i hd;cases hab;exact key _ (by simp[Instr.makeMap,aE hd,asInt,asIntOf])
  ·exact ak.fail
theorem lB{d:TypeDesc}{k e k' e':Value}(hk:aD Γ k k')(he:aD Γ e e'){b:Bool}(h:Instr.sameNow d k e=some b):Instr.sameNow d k' e'=some b:=by
 unfold Instr.sameNow at h;split at h
 ·cases hk;cases he;exact h
 ·cases hk;cases he;exact h
 ·cases hk;cases he;exact h
 ·simp at h
theorem r_{d:TypeDesc}{k k':Value}(hk:aD Γ k k'):∀ (es:List (Value×Value×Nat)) (aZ:List MapEntry) (i:Nat) (r:Option (Nat×Value)),bZ Γ es aZ→kJ d k es i=some r→
  (r=none∧Instr.findNow d k' aZ i=some none)∨(∃ j v v' e,r=some (i+j,v)∧Instr.findNow d k' aZ i=some (some (i+j,v'))∧aD Γ v v'∧aZ[j]? = some e∧Instr.sameNow d k' e.key=some true)
 | [],aZ,i,r,hp,h=>by
  cases hp;simp only[kJ,Option.some.injEq] at h;exact .inl ⟨h.symm,rfl⟩
 |p::es,aZ,i,r,hp,h=>by
  cases hp with
  |cons _ e _ aZ hkk hvv Rt ht=>
   simp only[kJ] at h;split at h
   ·rename_i hs;have hs':=lB hk hkk hs;refine .inr ⟨0,p.2.1,e.val,e,by simpa using h.symm,?_,hvv,rfl,hs'⟩;simp[Instr.findNow,hs']
   ·rename_i hs;have hs':=lB hk hkk hs
    rcases r_ hk es aZ (i+1) r ht h with ⟨h1,h2⟩ | ⟨j,v,v',e',h1,h2,h3,h4,h5⟩
    ·exact .inl ⟨h1,by simp[Instr.findNow,hs',h2]⟩
    ·refine .inr ⟨j+1,v,v',e',by rw[h1];congr 2;omega,?_,h3,by simpa using h4,h5⟩;simp only[Instr.findNow,hs',h2]
     congr 3;omega
   ·simp at h
theorem sk{kt:TypeId}{kd:TypeDesc}(hd:P.underlying kt=some kd)(hs:simpleKey kd=true)(empty:Bool)(m:Nat)(v:Value)(w:World):(Instr.checkKey empty (m+1) kt v).run P w = .ok () w:=by
 cases kd<;>first | (simp[simpleKey] at hs;done)|simp[Instr.checkKey,aE hd]
theorem FZ{l:List Field}(body:Field→PUnit→Sem (ForInStep PUnit))(hb:∀ f∈l,∀ w,(body f ⟨⟩).run P w = .ok (.yield ⟨⟩) w)(w:World):(forIn l (⟨⟩:PUnit) body:Sem PUnit).run P w = .ok ⟨⟩ w:=by
 induction l with
 |nil=>simp
 |cons f l ih=>
  rw[List.forIn_cons];simp only[Sem.run_bind,hb f List.mem_cons_self,Result.andThen_ok];exact ih fun f hf=>hb f (List.mem_cons_of_mem _ hf)
theorem iM{kt:TypeId}{kd:TypeDesc}{k k':Value}(hk:aD Γ k k')(hd:P.underlying kt=some kd)(hs:nZ P kt kd k=true)(empty:Bool)(w:World):(Instr.checkKey empty 10000 kt k').run P w = .ok () w:=by
 unfold nZ at hs;split at hs
 ·rename_i fs cs;cases hk with
  |agg l l' hl=>
   simp only[Bool.and_eq_true] at hs;have hf:=hs.2;unfold HY at hf;rw[List.all_eq_true] at hf;rw[show (10000:Nat)=9998+1+1 from rfl,Instr.checkKey];simp only[Sem.run_bind,aE hd,Result.andThen_ok];rw[←Array.forIn_toList];rw[FZ (P:=P) _ ?_ w]
   ·simp
   ·intro f hfm w;have:=hf f hfm;split at this
    ·rename_i d v h1 h2;obtain⟨v',hp,-⟩:=iq hl h2;by_cases hn:f.name = "_"
     ·simp[hn]
     ·simp[hn,hp,sk h1 this]
    ·simp at this
 ·exact sk hd hs empty 9999 k' w
theorem uM{D:Nat}{t:TypeId}{d:TypeDesc}{a b:Value}{q:Bool}(hd:P.underlying t=some d)(h:Instr.sameNow d a b=some q)(w:World):(Op.equalIn (D+1) t a b).run P w = .ok q w:=by
 unfold Instr.sameNow at h;split at h
 ·split at h
  ·rename_i hk;subst hk;simp only[Option.some.injEq] at h;subst h;simp[Op.equalIn,aE hd]
  ·simp at h
 ·simp only[Option.some.injEq] at h;subst h;simp[Op.equalIn,aE hd]
 ·simp only[Option.some.injEq] at h;subst h;simp[Op.equalIn,aE hd]
 ·simp at h
theorem qT(D:Nat){xs ys xs' ys':List Value}(hx:aM Γ xs xs')(hy:aM Γ ys ys'):∀ (fs:List Field) (b:Bool),qR P xs ys fs=some b→∀ w,(Op.eqFields (D+1) ⟨xs'⟩ ⟨ys'⟩ fs).run P w = .ok b w
 | [],b,h,w=>by
  simp only[qR,Option.some.injEq] at h;subst h;simp[Op.eqFields]
 |f::fs,b,h,w=>by
  unfold qR at h;unfold Op.eqFields;split at h
  ·rename_i hn;split at h
   ·rename_i d p q hd hp hq;obtain⟨p',hrp,hvp⟩:=iq hx hp;obtain⟨q',hrq,hvq⟩:=iq hy hq;split at h
    ·rename_i hs;have:=uM (D:=D) hd (lB hvp hvq hs) w;have ih:=qT D hx hy fs b h w;simp[hn,hrp,hrq,this,ih]
    ·rename_i hs;have:=uM (D:=D) hd (lB hvp hvq hs) w;simp only[Option.some.injEq] at h;subst h;simp[hn,hrp,hrq,this]
    ·simp at h
   ·simp at h
  ·rename_i hn;have ih:=qT D hx hy fs b h w;have hn':f.name = "_":=by simpa using hn
   simp[hn',ih]
theorem su{kt:TypeId}{fs:Array Field}{xs xs':List Value}(hd:P.underlying kt=some (.struct fs))(hst:P.stoodInHeld kt=false)(hx:aM Γ xs xs'):∀ (es:List (Value×Value×Nat)) (aZ:List MapEntry) (i:Nat) (r:Option (Nat×Value)),bZ Γ es aZ→oB P fs.toList xs es i=some r→
  (r=none∧∀ w,(Instr.findAsking kt (.agg ⟨xs'⟩) aZ i).run P w = .ok none w)∨(∃ j v v' e,r=some (i+j,v)∧(∀ w,(Instr.findAsking kt (.agg ⟨xs'⟩) aZ i).run P w = .ok (some (i+j,v')) w)∧aD Γ v v'∧aZ[j]? = some e)
 | [],aZ,i,r,hp,h=>by
  cases hp;simp only[oB,Option.some.injEq] at h;exact .inl ⟨h.symm,fun w=>by simp[Instr.findAsking]⟩
 |p::es,aZ,i,r,hp,h=>by
  cases hp with
  |cons _ e _ aZ hkk hvv Rt ht=>
   simp only[oB] at h;split at h
   ·rename_i ys hpe;rw[hpe] at hkk;cases hek:e.key with
    |agg ys'=>
     rw[hek] at hkk;obtain⟨yl⟩:=ys';obtain⟨ysl⟩:=ys;cases hkk with
     |agg _ _ hy=>
      have hfo:P.fieldsOf kt=fs:=by simp[Program.fieldsOf,hd]
      have hrun:∀ b,qR P xs ysl fs.toList=some b→∀ w,(Op.equal kt (.agg ⟨xs'⟩) e.key).run P w = .ok b w:=fun b hb w=>by
       have:=qT 9998 hx hy fs.toList b hb w;rw[hek,show Op.equal kt (.agg ⟨xs'⟩) (.agg ⟨yl⟩)=Op.equalIn (9999+1) kt (.agg ⟨xs'⟩) (.agg ⟨yl⟩) from rfl,run_equalIn_struct w 9999 kt _ _ (by rw[hfo];exact hd) hst,hfo];exact this
      split at h
      ·rename_i hs;refine .inr ⟨0,p.2.1,e.val,e,by simpa using h.symm,fun w=>?_,hvv,rfl⟩;simp[Instr.findAsking,hrun _ hs]
      ·rename_i hs
       rcases su hd hst hx es aZ (i+1) r ht h with ⟨h1,h2⟩ | ⟨j,v,v',e',h1,h2,h3,h4⟩
       ·exact .inl ⟨h1,fun w=>by simp[Instr.findAsking,hrun _ hs,h2]⟩
       ·refine .inr ⟨j+1,v,v',e',by rw[h1];congr 2;omega,fun w=>?_,h3,by simpa using h4⟩;rw[show i+(j+1)=i+1+j by omega];simp only[Instr.findAsking,Sem.run_bind,hrun _ hs,Result.andThen_ok,h2,Bool.false_eq_true,if_false]
      ·simp at h
    | _=>rw[hek] at hkk;cases hkk
   ·simp at h
theorem nk{kt:TypeId}{kd:TypeDesc}{k k':Value}(hk:aD Γ k k')(hd:P.underlying kt=some kd)(hs:nZ P kt kd k=true){es:List (Value×Value×Nat)}{aZ:List MapEntry}{r:Option (Nat×Value)}(hp:bZ Γ es aZ)(h:dh P kd k es 0=some r):
  (r=none∧∀ w,(Instr.findKey kt k' aZ).run P w = .ok none w)∨(∃ j v v' e,r=some (j,v)∧(∀ w,(Instr.findKey kt k' aZ).run P w = .ok (some (j,v')) w)∧aD Γ v v'∧aZ[j]? = some e∧(simpleKey kd=true→Instr.sameNow kd k' e.key=some true)):=by
 unfold dh at h;unfold nZ at hs;split at h
 ·rename_i fs cs;cases hk with
  |agg l l' hl=>
   simp only[Bool.and_eq_true,Bool.not_eq_true'] at hs;have hfk:∀ w,(Instr.findKey kt (.agg ⟨l'⟩) aZ).run P w=(Instr.findAsking kt (.agg ⟨l'⟩) aZ 0).run P w:=fun w=>by
    unfold Instr.findKey;simp only[Sem.run_bind,aE hd,Result.andThen_ok];cases aZ with
    |nil=>simp[Instr.findNow,Instr.findAsking]
    |cons e es=>simp[Instr.findNow,Instr.sameNow]
   rcases su hd hs.1 hl es aZ 0 r hp h with ⟨h1,h2⟩ | ⟨j,v,v',e,h1,h2,h3,h4⟩
   ·exact .inl ⟨h1,fun w=>by rw[hfk,h2]⟩
   ·exact .inr ⟨j,v,v',e,by rw[h1,Nat.zero_add],fun w=>by rw[hfk,h2,Nat.zero_add],h3,h4,fun q=>by simp[simpleKey] at q⟩
 ·have hfk:∀ q,Instr.findNow kd k' aZ 0=some q→∀ w,(Instr.findKey kt k' aZ).run P w = .ok q w:=fun q hq w=>by
   unfold Instr.findKey;simp only[Sem.run_bind,aE hd,Result.andThen_ok,hq];simp
  rcases r_ hk es aZ 0 r hp h with ⟨h1,h2⟩ | ⟨j,v,v',e',h1,h2,h3,h4,h5⟩
  ·exact .inl ⟨h1,hfk _ h2⟩
  ·exact .inr ⟨j,v,v',e',by rw[h1,Nat.zero_add],fun w=>by rw[hfk _ h2,Nat.zero_add],h3,h4,fun _=>h5⟩
theorem Di{t:TypeId}{x x' k k':Value}{ok:Bool}(hx:aD Γ x x')(hk:aD Γ k k'):iA P Γ (mX P t x k ok) (Instr.lookup t x' k' ok) aD:=by
 intro W h n w hS;unfold mX;split
 ·rename_i kt et hd;split
  ·rename_i kd vC;cases hsk:nZ P kt kd k with
   |false=>exact ak.fail
   |true=>
    simp only[cond_true];have main:∀ (es:List (Value×Value×Nat)) (aZ:Array MapEntry),bZ Γ es aZ.toList→
      ((x' = .map none∧aZ=#[])∨∃ r clk,x' = .map (some r)∧(getObj r).run P w = .ok (.map aZ clk) w)→
      ak P Γ W h n w (match dh P kd k es 0 with
       |some (some (_,v)) => .pure (cond ok (.tuple ⟨[v,.bool true]⟩) v)
       |some none=>match zeroOf P et with
        |some z => .pure (cond ok (.tuple ⟨[z,.bool false]⟩) z)
        |none => .fail "lookup"
       |none => .fail "lookup") (Instr.lookup t x' k' ok) aD:=by
     intro es aZ hp hrun;have VT:∀ r',(∀ w,(Instr.findKey kt k' aZ.toList).run P w = .ok r' w)→(Instr.lookup t x' k' ok).run P w=(do
       let (v,ok') ←match r' with
        |some (_,v)=>pure (v,true)
        |none=>pure (←zeroValue et,false)
       pure (if ok then .tuple #[v,.bool ok'] else v):Sem Value).run P w:=by
      intro r' hr';unfold Instr.lookup;simp only[Sem.run_bind,aE hd,Result.andThen_ok]
      rcases hrun with ⟨rfl,rfl⟩ | ⟨r,clk,rfl,Bm⟩
      ·simp only[Sem.run_bind,Sem.run_pure,iM hk vC hsk,Result.andThen_ok,hr'];cases r'<;>rfl
      ·simp only[Sem.run_bind,Bm,Sem.run_pure,iM hk vC hsk,Result.andThen_ok,hr'];cases r'<;>rfl
     cases hfp:dh P kd k es 0 with
     |none=>exact ak.fail
     |some r=>
      rcases nk hk vC hsk hp hfp with ⟨rfl,h2⟩ | ⟨j,v,v',e',rfl,h2,h3,_,_⟩
      ·dsimp only;split
       ·rename_i z hz;obtain⟨CQ,Dc⟩:=dS hz;refine ak.ok hS (b:=if ok then .tuple #[z,.bool false] else z) ?_ ?_
        ·rw[VT _ h2];simp[CQ]
        ·cases ok
         ·exact Dc Γ
         ·exact .tuple _ _ (.cons _ _ _ _ (Dc Γ) (.cons _ _ _ _ (.bool _) .nil))
       ·exact ak.fail
      ·dsimp only;refine ak.ok hS (b:=if ok then .tuple #[v',.bool true] else v') ?_ ?_
       ·rw[VT _ h2];simp
       ·cases ok
        ·exact h3
        ·exact .tuple _ _ (.cons _ _ _ _ h3 (.cons _ _ _ _ (.bool _) .nil))
    unfold pU;split
    ·cases hx;exact main [] #[] .nil (.inl ⟨rfl,rfl⟩)
    ·rename_i r;cases hx with
     |map _ r' hr=>
      refine ak.get fun B hB=>?_;cases B with
      |cells=>exact ak.fail
      |iter=>exact ak.fail
      |loop=>exact ak.fail
      |deferred=>exact ak.fail
      |map es clk=>
       obtain⟨b,s,e,⟨rfl,aZ,h1,h2⟩,_⟩:=hS.live _ _ hB;rw[hr] at e;obtain⟨rfl,_⟩:r'=b∧0=0:=by simpa using e
       exact main es aZ h2 (.inr ⟨r',clk,rfl,by simp[getObj,Sem.run,h1]⟩)
    ·exact ak.fail
  ·exact ak.fail
 ·exact ak.fail
theorem bZ.modify{k k' v v':Value}(hk:aD Γ k k')(hv:aD Γ v v'):∀ {es:List (Value×Value×Nat)} {aZ:List MapEntry} (j:Nat),bZ Γ es aZ→
  bZ Γ (ia k v es j) (aZ.modify j fun e=>{ e with key:=k',val:=v' })
 | _,_,0,.nil => .nil
 | _,_,_+1,.nil => .nil
 | _,_,0,.cons p e l l' h1 h2 hb t=>by simpa [ia] using .cons _ _ _ _ hk hv hb t
 | _,_,j+1,.cons p e l l' h1 h2 hb t=>by
  have:=bZ.modify hk hv j t
  simpa [ia] using .cons p e _ _ h1 h2 hb this
theorem qv{d:TypeDesc}{a b:Value}(h:Instr.sameNow d a b=some true)(m:Nat):Instr.sameBits m b a=true:=by
 unfold Instr.sameNow at h;split at h
 ·split at h
  ·rename_i hk;subst hk;simp only[Option.some.injEq,beq_iff_eq] at h;subst h;simp[Instr.sameBits]
  ·simp at h
 ·simp only[Option.some.injEq] at h;rw[beq_toListBytes] at h;have h':=eq_of_beq h;simp[Instr.sameBits,beq_toListBytes,h']
 ·simp only[Option.some.injEq,beq_iff_eq] at h;subst h;simp[Instr.sameBits]
 ·simp at h
theorem oJ{t:TypeId}{x x' k k' v v':Value}(hx:aD Γ x x')(hk:aD Γ k k')(hv:aD Γ v v'):iA P Γ (fK P t x k v) (Instr.mapUpdate t x' k' v') (fun _ _ _=>True):=by
 intro W h n w hS;unfold fK;split
 ·rename_i kt et r hd;split
  ·rename_i kd vC;cases hsk:nZ P kt kd k with
   |false=>exact ak.fail
   |true=>
    simp only[cond_true];cases hx with
    |map _ r' hr=>
     refine ak.get fun B hB=>?_;split
     ·rename_i es clk;obtain⟨b,s,e,⟨rfl,aZ,h1,h2⟩,_⟩:=hS.live _ _ hB;rw[hr] at e;obtain⟨rfl,_⟩:r'=b∧0=0:=by simpa using e
      have Bm:(getObj r').run P w = .ok (.map aZ clk) w:=by simp[getObj,Sem.run,h1]
      have Ft:∀ o,(setObj r' o).run P w = .ok () { w with heap:=w.heap.setIfInBounds r' o }:=fun o=>by simp[setObj,Sem.run,h1]
      cases hfp:dh P kd k es 0 with
      |none=>exact ak.fail
      |some q=>
       rcases nk hk vC hsk h2 hfp with ⟨rfl,h3⟩ | ⟨j,u,u',e',rfl,h3,h4,h5,h6⟩
       ·dsimp only;refine ak.set (w':={ w with heap:=w.heap.setIfInBounds r' (.map (aZ.push { key:=k',val:=v',born:=clk }) (clk+1)) }) (e':=pure ()) ?_
         (ak.ok (hS.FI hB hr _ (by simpa using h2.append (.cons (k,v,clk) { key:=k',val:=v',born:=clk } _ _ hk hv rfl .nil))) rfl trivial)
        simp[Instr.mapUpdate,aE hd,Bm,iM hk vC hsk,h3,Ft]
       ·simp only[Nat.zero_add] at h3 ⊢;have hjl:j<aZ.toList.length:=by
         rcases Nat.lt_or_ge j aZ.toList.length with hh |hh
         ·exact hh
         ·rw[List.getElem?_eq_none hh] at h5;simp at h5
        cases ao1:simpleKey kd with
        |false=>exact ak.fail
        |true=>
        simp only[cond_true];refine ak.set (w':={ w with heap:=w.heap.setIfInBounds r' (.map (aZ.modify j fun e=>{ e with key:=k',val:=v' }) clk) }) (e':=pure ()) ?_
         (ak.ok (hS.FI hB hr _ (by
          have:=h2.modify hk hv j
          simpa using this)) rfl trivial)
        have h5':aZ[j]? = some e':=by simpa using h5
        have hsb:=qv (h6 ao1) 10000;simp[Instr.mapUpdate,aE hd,Bm,iM hk vC hsk,h3,Instr.keyThatStays,h5',hsb,Ft]
     ·exact ak.fail
  ·exact ak.fail
 ·exact ak.fail
theorem bZ.eraseIdx:∀ {es:List (Value×Value×Nat)} {aZ:List MapEntry} (j:Nat),bZ Γ es aZ→bZ Γ (es.eraseIdx j) (aZ.eraseIdx j)
 | _,_,_,.nil=>by simpa using .nil
 | _,_,0,.cons p e l l' h1 h2 hb t=>by simpa using t
 | _,_,j+1,.cons p e l l' h1 h2 hb t=>by simpa using .cons p e _ _ h1 h2 hb (bZ.eraseIdx j t)
theorem Dj{ts:Array TypeId}{ty:TypeId}{args args':List Value}(ha:aM Γ args args'):iA P Γ (Ba P ts.toList args) (Builtin.delete_ ts ty ⟨args'⟩) aD:=by
 intro W h n w hS;unfold Ba;split
 ·rename_i t tr r k hts;obtain⟨tl⟩:=ts;obtain rfl:tl=t::tr:=hts;cases ha with
  |cons _ m' _ _ hm ha=>
   cases ha with
   |cons _ k' _ _ hk ha=>
    cases ha;cases hm with
    |map _ r' hr=>
     split
     ·rename_i kt et hd;split
      ·rename_i kd vC;cases hsk:nZ P kt kd k with
       |false=>exact ak.fail
       |true=>
        simp only[cond_true];refine ak.get fun B hB=>?_;split
        ·rename_i es clk;obtain⟨b,s,e,⟨rfl,aZ,h1,h2⟩,_⟩:=hS.live _ _ hB;rw[hr] at e;obtain⟨rfl,_⟩:r'=b∧0=0:=by simpa using e
         have Bm:(getObj r').run P w = .ok (.map aZ clk) w:=by simp[getObj,Sem.run,h1]
         have Ft:∀ o,(setObj r' o).run P w = .ok () { w with heap:=w.heap.setIfInBounds r' o }:=fun o=>by simp[setObj,Sem.run,h1]
         cases hfp:dh P kd k es 0 with
         |none=>exact ak.fail
         |some q=>
          rcases nk hk vC hsk h2 hfp with ⟨rfl,h3⟩ | ⟨j,u,u',e',rfl,h3,h4,h5,h6⟩
          ·dsimp only;have hsame:({ w with heap:=w.heap.setIfInBounds r' (.map aZ clk) }:World)=w:=by
            have:w.heap.setIfInBounds r' (.map aZ clk)=w.heap:=by
             apply Array.ext_getElem?;intro i;by_cases hi:i=r'
             ·subst hi;rw[h1];simp[dZ h1]
             ·rw[Array.getElem?_setIfInBounds_ne (Ne.symm hi)]
            rw[this]
           refine ak.ok hS (b := .tuple #[]) ?_ (.tuple _ _ .nil);simp[Builtin.delete_,aE hd,Bm,iM hk vC hsk,h3,Ft,hsame]
          ·simp only[Nat.zero_add] at h3 ⊢;refine ak.set (w':={ w with heap:=w.heap.setIfInBounds r' (.map (aZ.eraseIdxIfInBounds j) clk) }) (e':=pure (.tuple #[])) ?_
            (ak.ok (hS.FI hB hr _ (by
             have:=h2.eraseIdx j
             simpa using this)) rfl (.tuple _ _ .nil))
           simp[Builtin.delete_,aE hd,Bm,iM hk vC hsk,h3,Ft]
        ·exact ak.fail
      ·exact ak.fail
     ·exact ak.fail
 ·exact ak.fail
theorem Mn{ts:Array TypeId}{ty:TypeId}{args args':List Value}(ha:aM Γ args args'):iA P Γ (XP P ts.toList args) (Builtin.len_ ts ty ⟨args'⟩) aD:=by
 intro W h n w hS;unfold XP;split
 ·rename_i t tr x xr hts;obtain⟨tl⟩:=ts;obtain rfl:tl=t::tr:=hts;cases ha with
  |cons _ x' _ xr' hx ha=>
   split
   ·rename_i s hd;cases hx;exact ak.ok hS (b := .int .i64 s.size) (by simp[Builtin.len_,aE hd,goInt]) (.int _ _)
   ·rename_i _ m e hd;exact ak.ok hS (b := .int .i64 m) (by simp[Builtin.len_,aE hd,goInt]) (.int _ _)
   ·rename_i _ arr hd;split
    ·rename_i m e hd2;exact ak.ok hS (b := .int .i64 m) (by simp[Builtin.len_,aE hd,aE hd2,goInt]) (.int _ _)
    ·exact ak.fail
   ·rename_i e a m c hd;cases hx with
    |nilslice=>exact ak.ok hS (b := .int .i64 m) (by simp[Builtin.len_,aE hd,goInt]) (.int _ _)
    |slice=>exact ak.ok hS (b := .int .i64 m) (by simp[Builtin.len_,aE hd,goInt]) (.int _ _)
   ·rename_i _ k e hd;unfold pU;split
    ·cases hx;exact ak.ok hS (b := .int .i64 (0:Nat)) (by simp[Builtin.len_,aE hd,goInt]) (.int _ _)
    ·rename_i r;cases hx with
     |map _ r' hr=>
      refine ak.get fun B hB=>?_;cases B with
      |cells=>exact ak.fail
      |iter=>exact ak.fail
      |loop=>exact ak.fail
      |deferred=>exact ak.fail
      |map es clk=>
       obtain⟨b,s,e,⟨rfl,aZ,h1,h2⟩,_⟩:=hS.live _ _ hB;rw[hr] at e;obtain⟨rfl,_⟩:r'=b∧0=0:=by simpa using e
       have Bm:(getObj r').run P w = .ok (.map aZ clk) w:=by simp[getObj,Sem.run,h1]
       have hlen:aZ.size=es.length:=by simpa using h2.length
       exact ak.ok hS (b := .int .i64 es.length) (by simp[Builtin.len_,aE hd,goInt,Bm,hlen]) (.int _ _)
    ·exact ak.fail
   ·exact ak.fail
 ·exact ak.fail
theorem Mp{ts:Array TypeId}{ty:TypeId}{args args':List Value}(ha:aM Γ args args'):iA P Γ (XQ P ts.toList args) (Builtin.cap_ ts ty ⟨args'⟩) aD:=by
 intro W h n w hS;unfold XQ;split
 ·rename_i t tr x xr hts;obtain⟨tl⟩:=ts;obtain rfl:tl=t::tr:=hts;cases ha with
  |cons _ x' _ xr' hx ha=>
   split
   ·rename_i _ m e hd;exact ak.ok hS (b := .int .i64 m) (by simp[Builtin.cap_,aE hd,goInt]) (.int _ _)
   ·rename_i e a m c hd;cases hi:Nat.ble aA c with
    |true=>exact ak.fail
    |false=>
     have gX: ¬ aA≤c:=fun hle=>by rw[Nat.ble_eq_true_of_le hle] at hi;exact Bool.noConfusion hi
     cases hx with
     |nilslice=>exact ak.ok hS (b := .int .i64 c) (by simp[Builtin.cap_,aE hd,goInt]) (.int _ _)
     |slice _ _ _ _ c' _ hc=>
      unfold bL.cap at hc;rw[if_neg gX] at hc;subst hc;exact ak.ok hS (b := .int .i64 c') (by simp[Builtin.cap_,aE hd,goInt]) (.int _ _)
   ·exact ak.fail
 ·exact ak.fail
theorem qU(mx:Bool):∀ (r r':List Value) (x x' v:Value),aD Γ x x'→aM Γ r r'→tO mx x r=some v→
  ∃ v',(∀ w,(r'.foldlM (if mx then Builtin.max2 else Builtin.min2) x').run P w = .ok v' w)∧aD Γ v v'
 | [],r',x,x',v,hx,hr,e=>by
  cases hr;obtain rfl:x=v:=by simpa [tO] using e
  exact⟨x',fun w=>rfl,hx⟩
 |y::r,r',x,x',v,hx,hr,e=>by
  cases hr with
  |cons _ y' _ r' hy hr=>
   unfold tO at e;split at e
   ·rename_i heq;simp at heq
   ·rename_i k a k' b rr heq;obtain⟨rfl,rfl⟩:y = .int k' b∧r=rr:=by simpa using heq
    cases hx;cases hy;obtain⟨v',hrun,hv⟩:=qU mx r r' _ _ v (.int _ _) hr e;refine⟨v',fun w=>?_,hv⟩;rw[←hrun w];cases mx
    ·simp[Builtin.min2]
    ·simp[Builtin.max2]
   ·simp at e
theorem JO{ts:Array TypeId}{ty:TypeId}{args args':List Value}(ha:aM Γ args args'):iA P Γ (zO P ts.toList args) (Builtin.copy_ ts ty ⟨args'⟩) aD:=by
 intro W h n w hS;unfold zO;split
 ·rename_i t tr base len cap x hts;obtain⟨tl⟩:=ts;obtain rfl:tl=t::tr:=hts;cases ha with
  |cons _ d' _ _ hd' ha=>
   cases ha with
   |cons _ x' _ _ hx ha=>
    cases ha;split
    ·rename_i e hd;split
     ·rename_i i a b m c hi;cases hd' with
      |slice _ a' _ _ dc' ao2 hca=>
       cases hx with
       |slice _ b' _ _ sc' ao3 hcb=>
        have hmin:Nat.min m len=min m len:=rfl;cases Sh:Nat.beq (min m len) 0 with
        |true=>
         have Sh:=beq_true Sh;refine ak.ok hS (b := .int .i64 0) ?_ (.int _ _);simp only[Builtin.copy_,List.getElem?_toArray,List.getElem?_cons_zero,List.getElem?_cons_succ,Sem.run_bind,aE hd,Result.andThen_ok,Builtin.lenOf,Sem.run_pure,bS hi,Builtin.firstCells,hmin,Sh];simp[loadCells,loadCellsFrom,storeCells,goInt]
        |false=>
         have Sh:min m len≠0:=fun e=>by rw[e] at Sh;exact Bool.noConfusion Sh
         have oI:=ao2.exact (.inl qJ);have Rt:=ao3.exact (.inl qJ);simp only[cond_false];refine ak.get fun B hB=>?_;split
         ·rename_i cc ro;split
          ·rename_i l hl;obtain⟨l',hl',hrl⟩:=jG (P:=P) hS hB Rt rfl hl;refine ak.get fun D hD=>?_;split
           ·rename_i dd;split
            ·rename_i d2 hd2;obtain⟨w',hr,ku⟩:=gF (P:=P) (i:=a.block) (a:=a) (a':=a') rfl l l' dd d2 0 h w oI hS hD hl' (by simpa using hd2);refine ak.set (w':=w') (e':=pure (.int .i64 (min m len:Nat))) ?_ (ak.ok ku rfl (.int _ _));simp only[Builtin.copy_,List.getElem?_toArray,List.getElem?_cons_zero,List.getElem?_cons_succ,Sem.run_bind,aE hd,Result.andThen_ok,Builtin.lenOf,Sem.run_pure,bS hi,Builtin.firstCells,hmin,hrl];simp[hr,goInt]
            ·exact ak.fail
           ·exact ak.fail
          ·exact ak.fail
         ·exact ak.fail
     ·rename_i i a m c hi;cases hl0:Nat.beq len 0 with
      |false=>exact ak.fail
      |true=>
       obtain rfl:=beq_true hl0;cases hd';refine ak.ok hS (b := .int .i64 0) ?_ (.int _ _);have hmin:∀ m,Nat.min m 0=0:=fun m=>Nat.min_zero m;cases hx with
       |nilslice=>simp[Builtin.copy_,aE hd,Builtin.lenOf,bS hi,Builtin.firstCells,goInt,hmin]
       |slice=>simp[Builtin.copy_,aE hd,Builtin.lenOf,bS hi,Builtin.firstCells,goInt,hmin,loadCells,loadCellsFrom]
     ·rename_i i a m c hi;cases hd' with
      |slice _ a' _ _ dc' oI hca=>
       cases hx;refine ak.ok hS (b := .int .i64 (min m len:Nat)) ?_ (.int _ _);have hmin:Nat.min m len=min m len:=rfl;simp[Builtin.copy_,aE hd,Builtin.lenOf,bS hi,Builtin.firstCells,goInt,hmin,storeCells]
     ·exact ak.fail
    ·exact ak.fail
 ·exact ak.fail
end
end Go.Am
