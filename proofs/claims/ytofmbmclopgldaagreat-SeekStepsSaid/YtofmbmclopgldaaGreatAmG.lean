/-
A part.
-/
import Derived.Test.YtofmbmclopgldaaGreatAmE
import Derived.Laws.StructEq
set_option linter.all false
set_option maxHeartbeats 4000000
namespace Go.Am
open Go.RowKit
section
variable {P:Program} {Γ:bL} {W w:World} {h:PT aj} {n:Nat}
theorem aM.fD{l l' vs vs':List Value}(hl:aM Γ l l')(hv:aM Γ vs vs')(off:Nat):aM Γ (Am.fD l off vs) (Am.fD l' off vs'):=by
 unfold Am.fD;rw[hv.length];exact((hl.take off).append hv).append (hl.drop _)
theorem FO(l:List Value)(i:Nat)(v:Value):(⟨l⟩:Array Value).setIfInBounds i v=⟨l.set i v⟩:=by
 apply Array.ext';simp
theorem uG:∀ (vs:List Value) (k:Nat) (l:List Value) (off:Nat),off+k+vs.length≤l.length→
  (vs.zipIdx k).foldl (fun (cs:Array Value) (p:Value×Nat)=>cs.setIfInBounds (off+p.2) p.1) ⟨l⟩=⟨Am.fD l (off+k) vs⟩
 | [],k,l,off,h=>by simp[Am.fD]
 |v::vs,k,l,off,h=>by
  simp only[List.length_cons] at h;simp only[List.zipIdx_cons,List.foldl_cons,FO];rw[uG vs (k+1) (l.set (off+k) v) off (by simp;omega)]
  congr 1
  unfold Am.fD;have hlt:off+k<l.length:=by omega
  rw[List.set_eq_take_append_cons_drop,if_pos hlt];have e1:(List.take (off+k) l).length=off+k:=by simp;omega
  rw[show off+(k+1)=off+k+1 by omega];rw[List.take_append,List.drop_append,e1];simp only[List.length_cons];rw[List.take_of_length_le qJ,show off+k+1-(off+k)=1 by omega,List.take_succ_cons,List.take_zero];rw[List.drop_of_length_le (l:=List.take (off+k) l) qJ,show off+k+1+vs.length-(off+k)=vs.length+1 by omega,List.drop_succ_cons,List.drop_drop];simp[show off+k+1+vs.length=off+k+(vs.length+1) by omega]
inductive lY (Γ:bL):List (Nat×Value)→List (Nat×Value)→Prop
 |nil:lY Γ [] []
 |cons (i:Nat) (v v':Value) (l l':List (Nat×Value)) (h:aD Γ v v') (t:lY Γ l l'):lY Γ ((i,v)::l) ((i,v')::l')
theorem lY.map{ρ ρ':Operand→Value}:∀ (l:List (Nat×Operand)),(∀ p∈l,aD Γ (ρ p.2) (ρ' p.2))→lY Γ (l.map fun p=>(p.1,ρ p.2)) (l.map fun p=>(p.1,ρ' p.2))
 | [],_ => .nil
 |p::l,h => .cons _ _ _ _ _ (h p (by simp)) (lY.map l fun q hq=>h q (by simp[hq]))
theorem rY(place:Nat→Option (Nat×Nat)):∀ (ps ps':List (Nat×Value)) (l l' out:List Value),lY Γ ps ps'→aM Γ l l'→iV place l ps=some out→
  ∃ out',Instr.fill place ⟨l'⟩ ps'=some ⟨out'⟩∧aM Γ out out'
 | [],ps',l,l',out,hp,hl,e=>by
  cases hp;obtain rfl:l=out:=by simpa [iV] using e
  exact⟨l',rfl,hl⟩
 |p::ps,ps',l,l',out,hp,hl,e=>by
  cases hp with
  |cons i v v' _ ps' hv hps=>
   simp only[iV] at e;cases VN:place i with
   |none=>simp[VN] at e
   |some q=>
    obtain⟨off,size⟩:=q;simp only[VN] at e;cases hc:(Nat.beq v.cells.toList.length size&&Nat.ble (off+v.cells.toList.length) l.length) with
    |false=>rw[hc] at e;simp at e
    |true=>
     simp only[hc,cond_true] at e;simp only[Bool.and_eq_true] at hc;have h1:=Nat.eq_of_beq_eq_true hc.1;have h2:=Nat.le_of_ble_eq_true hc.2;have hlen:=hv.cells.length;have zR:=hl.length;have hsz:v'.cells.size=size:=by rw[←h1,←hlen];simp
     obtain⟨out',hf,ho⟩:=rY place ps ps' _ (Am.fD l' off v'.cells.toList) out hps (hl.fD hv.cells off) e;refine⟨out',?_,ho⟩;have hle: ¬ (off+v'.cells.size>(⟨l'⟩:Array Value).size):=by
      have:(⟨l'⟩:Array Value).size=l'.length:=rfl;have h3:v'.cells.size=v'.cells.toList.length:=by simp
      omega
     simp only[Instr.fill,VN,hsz,ne_eq,not_true_eq_false,decide_false,Bool.false_or];rw[if_neg (by simpa [hsz] using hle)];have:=uG v'.cells.toList 0 l' off qJ;simp only[Nat.add_zero] at this;rw[←hf,←this]
     congr 1
     rw[←Array.foldl_toList];simp
theorem n_:∀ (fs:List Field) (ps:List (Nat×Nat)),fH P fs=some ps→∀ w,(fs.mapM fun f=>Prod.mk f.offset<$>(sizeOf f.type:Sem Nat)).run P w = .ok ps w
 | [],ps,h,w=>by simp[fH] at h;subst h;simp
 |f::fs,ps,h,w=>by
  simp only[fH] at h;split at h
  ·rename_i i l hi hl;obtain rfl:=Option.some.inj h;simp[List.mapM_cons,bS hi,n_ fs l hl]
  ·simp at h
theorem vu(fs:Array Field)(ps:List (Nat×Nat))(h:fH P fs.toList=some ps)(w:World):(fs.mapM fun f=>Prod.mk f.offset<$>(sizeOf f.type:Sem Nat)).run P w = .ok ⟨ps⟩ w:=by
 have:=n_ (P:=P) fs.toList ps h w;rw[Array.mapM_eq_mapM_toList];simp[this]
theorem FP{t:TypeId}{ps ps':List (Nat×Value)}(hp:lY Γ ps ps'):iA P Γ (qO P t ps) (Instr.build t ⟨ps'⟩) aD:=by
 intro W h n w hS;unfold qO;split
 ·rename_i z fs hz hd;obtain⟨CQ,Dc⟩:=dS hz;split
  ·rename_i pl VN;split
   ·rename_i l hl;obtain⟨out',hf,ho⟩:=rY _ ps ps' _ _ l hp (Dc Γ).cells hl;refine ak.ok hS (b := .agg ⟨out'⟩) ?_ (.agg _ _ ho);have hf':Instr.fill (fun (x:Nat)=>pl[x]?) z.cells ps'=some ⟨out'⟩:=hf;simp[Instr.build,CQ,aE hd,vu fs pl VN,hf']
   ·exact ak.fail
  ·exact ak.fail
 ·rename_i z len e hz hd;obtain⟨CQ,Dc⟩:=dS hz;split
  ·rename_i i hi;split
   ·rename_i l hl;obtain⟨out',hf,ho⟩:=rY _ ps ps' _ _ l hp (Dc Γ).cells hl;refine ak.ok hS (b := .agg ⟨out'⟩) ?_ (.agg _ _ ho);have hf':Instr.fill (fun j=>some (j*i.size,i.size)) z.cells ps'=some ⟨out'⟩:=by
     rw[←hf]
    simp[Instr.build,CQ,aE hd,bS hi,hf']
   ·exact ak.fail
  ·exact ak.fail
 ·exact ak.fail
theorem wU(z:List Value)(k:Nat):(rep z k).length=k*z.length:=by
 induction k with
 |zero=>simp[rep]
 |succ k ih=>simp[rep,ih,Nat.succ_mul,Nat.add_comm]
theorem H7(z:List Value):∀ (k i:Nat),i<k*z.length→(rep z k)[i]? = z[i%z.length]?
 |0,i,h=>by omega
 |k+1,i,h=>by
  simp only[rep];by_cases hi:i<z.length
  ·rw[List.getElem?_append_left hi,Nat.mod_eq_of_lt hi]
  ·rw[List.getElem?_append_right qJ,H7 z k (i-z.length) (by rw[Nat.succ_mul] at h;omega)]
   congr 1
   rw[Nat.mod_eq_sub_mod (by omega:i≥z.length)]
theorem p_(z:Array Value)(k:Nat)(hz:0<z.size):(Array.range (k*z.size)).map (fun j=>z[j%z.size]!)=⟨rep z.toList k⟩:=by
 apply Array.ext';apply List.ext_getElem?;intro i;simp only[Array.toList_map,Array.toList_range,List.getElem?_map];by_cases hi:i<k*z.size
 ·have hm:i%z.size<z.size:=Nat.mod_lt _ hz;rw[H7 _ _ _ (by simpa using hi)];simp[hi,hm,getElem!_pos]
 ·have:(rep z.toList k).length≤i:=by rw[wU];simpa using hi
  rw[List.getElem?_eq_none this];simp[hi]
theorem aM.rep{z z':List Value}(h:aM Γ z z'):∀ k,aM Γ (rep z k) (rep z' k)
 |0 => .nil
 |k+1=>h.append (aM.rep h k)
theorem vw{t:TypeId}{len:Nat}{ps ps':List (Nat×Value)}(hp:lY Γ ps ps'):iA P Γ (gu P t len ps) (Instr.buildSlice t len ⟨ps'⟩) aD:=by
 intro W h n w hS;unfold gu;split
 ·rename_i e hd;split
  ·rename_i i z hi hz;obtain⟨CQ,Dc⟩:=dS hz;cases hc:(Nat.ble (len*i.size) 16777216&&Nat.beq z.cells.toList.length i.size&&Nat.blt 0 i.size) with
   |false=>exact ak.fail
   |true=>
    simp only[cond_true];simp only[Bool.and_eq_true] at hc;have h1:=Nat.le_of_ble_eq_true hc.1.1;have h2:=Nat.eq_of_beq_eq_true hc.1.2;have h3:0<i.size:=Nat.blt_eq.mp hc.2;split
    ·rename_i l hl;obtain⟨out',hf,ho⟩:=rY _ ps ps' _ _ l hp ((Dc Γ).cells.rep len) hl;refine ak.new fun hn=>?_;obtain⟨aY,hst,hb,_,ku⟩:=hS.nh hn l ⟨out'⟩ e (fun i v hv=>by simpa using ho.get hv);refine⟨aY,w.alloc (.cells ⟨out'⟩ e),pure (.slice (some ⟨w.heap.size,0,none⟩) len len),hst,?_,ak.ok ku rfl ?_⟩
     ·have hzs:z.cells.size=i.size:=by rw[←h2];simp
      have De:(if len*i.size=0 then (#[]:Array Value) else z.cells)=if len*i.size=0 then #[] else z.cells:=rfl
      have hmap:(Array.range (len*i.size)).map (fun j=>(if len*i.size=0 then (#[]:Array Value) else z.cells)[j%(if len*i.size=0 then (#[]:Array Value) else z.cells).size]!)=⟨rep z.cells.toList len⟩:=by
       by_cases h0:len=0
       ·subst h0;simp[rep]
       ·have:len*i.size≠0:=Nat.mul_ne_zero h0 qJ;simp only[this,if_false];rw[←hzs];exact p_ z.cells len qJ
      by_cases h0:len*i.size=0
      ·simp only[h0,if_true] at hmap;have Mg:(⟨rep z.cells.toList len⟩:Array Value)=#[]:=by rw[←hmap];simp
       have Mh:Instr.fill (fun j=>some (j*i.size,i.size)) #[] ps'=some ⟨out'⟩:=by rw[←hf,Mg]
       have jk:Array.map (fun _=>(default:Value)) (Array.range 0)=#[]:=by simp[Array.range]
       simp[Instr.buildSlice,aE hd,bS hi,h0,Go.newRow];rw[jk,Mh];simp
      ·simp only[h0,if_false] at hmap;have Mg:Array.map (fun j=>z.cells[j%z.cells.size]!) (Array.range (len*i.size))=⟨rep z.cells.toList len⟩:=hmap;have Mh:Instr.fill (fun j=>some (j*i.size,i.size)) (Array.map (fun j=>z.cells[j%z.cells.size]!) (Array.range (len*i.size))) ps'=some ⟨out'⟩:=by rw[←hf,Mg]
       have Mi: ¬ (len*i.size>2^24):=by omega
       simp only[Instr.buildSlice,Sem.run_bind,aE hd,Result.andThen_ok,bS hi,Sem.run_ite,Mi,if_false,h0,CQ,Sem.run_pure,Mh,Go.newRow,run_newObj];rfl
     ·refine .slice _ _ _ _ _ (.inl ⟨rfl,rfl,0,by simpa using hb,by simp⟩) ?_;have hlt:len<aA:=by
       have:len≤len*i.size:=Nat.le_mul_of_pos_right _ h3;unfold aA;omega
      unfold bL.cap;rw[if_neg qJ]
    ·exact ak.fail
  ·exact ak.fail
 ·exact ak.fail
end
end Go.Am
namespace Go.Am
open Go.RowKit
section
variable {P:Program} {Γ:bL} {W w:World} {h:PT aj} {n:Nat}
def lp(P:Program)(D:Nat)(e:TypeId)(size:Nat)(xs ys:Array Value):List Nat→Sem Bool
 | []=>pure true
 |i::r=>do
  let a ←part e xs (i*size)
  let b ←part e ys (i*size)
  let q ←Op.equalIn D e a b
  if (!q)=true then pure false else lp P D e size xs ys r
theorem run_equalIn_array(D:Nat)(t e:TypeId)(len:Nat)(i:TypeInfo)(xs ys:Array Value)(ht:P.underlying t=some (.array len e))(hi:P.info? e=some i)(w:World):
  (Op.equalIn (D+1) t (.agg xs) (.agg ys)).run P w=(lp P D e i.size xs ys (List.range' 0 len)).run P w:=by
 simp only[Op.equalIn,Sem.run_bind,run_underlying ht,Result.andThen_ok,bS hi];rw[Std.Legacy.Range.forIn_eq_forIn_range'];simp only[Std.Legacy.Range.size,Nat.sub_zero,Nat.add_sub_cancel,Nat.div_one];generalize List.range' 0 len 1=l
 induction l generalizing w with
 |nil=>simp[lp]
 |cons f fs ih=>
  simp only[List.forIn_cons,lp,Sem.run_bind,Sem.run_ite]
  ·generalize (part e xs (f*i.size)).run P w=r1;cases r1 with
   |ok a w1=>
    simp only[Result.andThen_ok];generalize (part e ys (f*i.size)).run P w1=r2;cases r2 with
    |ok b w2=>
     simp only[Result.andThen_ok];generalize (Op.equalIn D e a b).run P w2=r3;cases r3 with
     |ok r w3=>
      cases r
      ·simp only[Result.andThen_ok,Bool.not_false,if_true,Sem.run_pure]
      ·simp only[Result.andThen_ok,Bool.not_true,Bool.false_eq_true,if_false,Sem.run_pure];exact ih w3
     |halt x w3=>simp[Result.andThen]
    |halt x w2=>simp[Result.andThen]
   |halt x w1=>simp[Result.andThen]
def EqR(_:bL)(a b:Bool):Prop:=a=b
theorem ni(D:Nat)(FE:TypeId→Value→Value→AP Bool)(heq:∀ (Γ:bL) t x y x' y',aD Γ x x'→aD Γ y y'→iA P Γ (FE t x y) (Op.equalIn D t x' y') EqR)
  {xs ys xs' ys':List Value}:∀ (fs:List Field) (Γ:bL),aM Γ xs xs'→aM Γ ys ys'→iA P Γ (ou P FE xs ys fs) (Op.eqFields D ⟨xs'⟩ ⟨ys'⟩ fs) EqR
 | [],Γ,_,_=>fun W h n w hS=>ak.ok hS rfl rfl
 |f::fs,Γ,hx,hy=>by
  intro W h n w hS;unfold ou Op.eqFields;split
  ·rename_i hn;split
   ·rename_i a b ha hb;obtain⟨a',hra,hva⟩:=iq hx ha;obtain⟨b',hrb,hvb⟩:=iq hy hb;refine ak.congr (w':=w) (e':=do
      let r ←Op.equalIn D f.type a' b'
      if (!r)=true then pure false else Op.eqFields D ⟨xs'⟩ ⟨ys'⟩ fs) ?_ ?_
    ·simp[hra,hrb]
    ·refine ak.bind (heq Γ _ _ _ _ _ hva hvb W h n w hS) fun aY q q' hle hq=>?_;obtain rfl:q=q':=hq;intro W h n w hS;cases q
     ·exact ak.ok hS rfl rfl
     ·exact ni D FE heq fs aY (hx.mono hle) (hy.mono hle) W h n w hS
   ·exact ak.fail
  ·exact ni D FE heq fs Γ hx hy W h n w hS
theorem uH(D:Nat)(FE:TypeId→Value→Value→AP Bool)(heq:∀ (Γ:bL) t x y x' y',aD Γ x x'→aD Γ y y'→iA P Γ (FE t x y) (Op.equalIn D t x' y') EqR)
  (e:TypeId) (size:Nat) {xs ys xs' ys':List Value}:∀ (k i:Nat) (Γ:bL),aM Γ xs xs'→aM Γ ys ys'→iA P Γ (vO P FE e size xs ys k i) (lp P D e size ⟨xs'⟩ ⟨ys'⟩ (List.range' i k)) EqR
 |0,i,Γ,_,_=>fun W h n w hS=>ak.ok hS rfl rfl
 |k+1,i,Γ,hx,hy=>by
  intro W h n w hS;unfold vO;rw[List.range'_succ];unfold lp;split
  ·rename_i a b ha hb;obtain⟨a',hra,hva⟩:=iq hx ha;obtain⟨b',hrb,hvb⟩:=iq hy hb;refine ak.congr (w':=w) (e':=do
     let r ←Op.equalIn D e a' b'
     if (!r)=true then pure false else lp P D e size ⟨xs'⟩ ⟨ys'⟩ (List.range' (i+1) k)) ?_ ?_
   ·simp[hra,hrb]
   ·refine ak.bind (heq Γ _ _ _ _ _ hva hvb W h n w hS) fun aY q q' hle hq=>?_;obtain rfl:q=q':=hq;intro W h n w hS;cases q
    ·exact ak.ok hS rfl rfl
    ·exact uH D FE heq e size k (i+1) aY (hx.mono hle) (hy.mono hle) W h n w hS
  ·exact ak.fail
theorem wV:∀ (d D:Nat) (_:d≤D) (Γ:bL) (t:TypeId) (x y x' y':Value),aD Γ x x'→aD Γ y y'→iA P Γ (cj P d t x y) (Op.equalIn D t x' y') EqR
 |0,D,_,Γ,t,x,y,x',y',hx,hy=>fun W h n w hS=>ak.fail
 |d+1,0,hD,Γ,t,x,y,x',y',hx,hy=>absurd hD qJ
 |d+1,D+1,hD,Γ,t,x,y,x',y',hx,hy=>by
  intro W h n w hS;have ih:=wV d D qJ;unfold cj;split
  ·rename_i a b hd;cases hx;cases hy;exact ak.ok hS (b:=a==b) (by simp[Op.equalIn,aE hd]) rfl
  ·rename_i k0 k a k' b hd;cases hx;cases hy;split
   ·rename_i hk;exact ak.ok hS (b:=a==b) (by simp[Op.equalIn,aE hd,hk]) rfl
   ·exact ak.fail
  ·rename_i a b hd;cases hx;cases hy;exact ak.ok hS (b:=a==b) (by simp[Op.equalIn,aE hd]) rfl
  ·rename_i e b hd;cases hx;cases hy with
   |gE=>exact ak.ok hS (b:=true) (by simp[Op.equalIn,aE hd]) rfl
   |ptr a a' ha=>exact ak.ok hS (b:=false) (by simp[Op.equalIn,aE hd]) rfl
  ·rename_i e a hd;cases hx with
   |ptr _ a' ha=>
    cases hy;exact ak.ok hS (b:=false) (by simp[Op.equalIn,aE hd]) rfl
  ·rename_i e a b hd;cases hx with
   |ptr _ a' ha=>
    cases hy with
    |ptr _ b' hb=>
     split
     ·rename_i i hi;cases hz:Nat.beq i.size 0 with
      |true=>exact ak.fail
      |false=>
       have hz:i.size≠0:=fun e=>by rw[e] at hz;exact Bool.noConfusion hz
       have hrun:∀ w,(Op.equalIn (D+1) t (.pointer (some a')) (.pointer (some b'))).run P w=(sameAddr a' b').run P w:=by
        intro w;simp[Op.equalIn,aE hd,bS hi,hz]
       obtain⟨s,e1,o1⟩:=ha.at_;obtain⟨s',e2,o2⟩:=hb.at_;simp only[cond_false];cases mS:Nat.beq a.block b.block with
       |true=>
        have mS:=Nat.eq_of_beq_eq_true mS;rw[mS,e2] at e1;obtain⟨hbe,rfl⟩:b'.block=a'.block∧s'=s:=by simpa using e1
        refine ak.ok hS (b:=a'==b') ?_ ?_
        ·rw[hrun];simp[sameAddr,hbe]
        ·show Nat.beq a.off b.off=(a'==b')
         have h1:=ha.spot';have h2:=hb.spot';rw[Bool.eq_iff_iff];constructor
         ·intro hq;have:=Nat.eq_of_beq_eq_true hq;obtain⟨ab,ao,as⟩:=a';obtain⟨bb,bo,bs⟩:=b'
          simp_all
         ·intro hq;have hq:a'=b':=by simpa using hq
          rw[hq,o2] at o1;have:a.off=b.off:=by omega
          rw[this];exact Nat.beq_refl _
       |false=>
        have hne:a.block≠b.block:=fun e=>by rw[e,Nat.beq_refl] at mS;exact Bool.noConfusion mS
        simp only[cond_false];refine ak.get fun A hA=>?_;split
        ·rename_i ca;refine ak.get fun B hB=>?_;split
         ·rename_i cb;have XT:=hS.ng _ _ _ _ _ _ _ _ hne hA hB e1 e2 rfl;obtain⟨_,_,_,⟨csa,ela,fza,ha1,ha2,_⟩,_⟩:=hS.block hA ha rfl;obtain⟨_,_,_,⟨csb,elb,fzb,zn,mT,_⟩,_⟩:=hS.block hB hb rfl;obtain rfl:=ha2 rfl;obtain rfl:=mT rfl;refine ak.ok hS (b:=false) ?_ rfl;rw[hrun];have fa:∀ o,World.frozen? w ⟨a'.block,o,none⟩=false:=fun o=>by simp[World.frozen?,ha1]
          have fb:∀ o,World.frozen? w ⟨b'.block,o,none⟩=false:=fun o=>by simp[World.frozen?,zn]
          have fa':w.frozen? a'=false:=by simp[World.frozen?,ha1]
          have fb':w.frozen? b'=false:=by simp[World.frozen?,zn]
          have sa:w.shape? a'.block=some (ela,csa.size):=by simp[World.shape?,ha1]
          have sb:w.shape? b'.block=some (elb,csb.size):=by simp[World.shape?,zn]
          simp[sameAddr,XT,fa',fb',noView,viewAt,sa,sb,mayBeOne,stringish,fa,fb]
         ·exact ak.fail
        ·exact ak.fail
     ·exact ak.fail
  ·rename_i ms hd;cases hx;cases hy;exact ak.ok hS (b:=true) (by simp[Op.equalIn,aE hd]) rfl
  ·rename_i ms _ _ hd;cases hx;cases hy;exact ak.ok hS (b:=false) (by simp[Op.equalIn,aE hd]) rfl
  ·rename_i ms _ _ hd;cases hx;cases hy;exact ak.ok hS (b:=false) (by simp[Op.equalIn,aE hd]) rfl
  ·rename_i ms tx vx ty vy hd;cases hx with
   |iface _ _ vx' hvx=>
    cases hy with
    |iface _ _ vy' hvy=>
     split
     ·rename_i hty;subst hty;split
      ·rename_i i hi;cases hc:i.comparable with
       |false=>exact ak.fail
       |true=>
        refine ak.congr (w':=w) (e':=Op.equalIn D tx vx' vy') ?_ (ih Γ tx vx vy vx' vy' hvx hvy W h n w hS);simp[Op.equalIn,aE hd,eO hi,hc]
      ·exact ak.fail
     ·rename_i hty;exact ak.ok hS (b:=false) (by simp[Op.equalIn,aE hd,hty]) rfl
  ·rename_i fs xs ys hd;cases hx with
   |agg l l' hl=>
    cases hy with
    |agg m m' hm=>
     cases hs:P.stoodInHeld t with
     |true=>exact ak.fail
     |false=>
      simp only[cond_false];have hfo:P.fieldsOf t=fs:=by simp[Program.fieldsOf,hd]
      refine ak.congr (w':=w) (e':=Op.eqFields D ⟨l'⟩ ⟨m'⟩ fs.toList) ?_ (ni D _ (fun Γ t x y x' y' hx hy=>ih Γ t x y x' y' hx hy) fs.toList Γ hl hm W h n w hS);rw[run_equalIn_struct w D t _ _ (by rw[hfo];exact hd) hs,hfo]
  ·rename_i len e xs ys hd;cases hx with
   |agg l l' hl=>
    cases hy with
    |agg m m' hm=>
     split
     ·rename_i i hi;refine ak.congr (w':=w) (e':=lp P D e i.size ⟨l'⟩ ⟨m'⟩ (List.range' 0 len)) ?_ (uH D _ (fun Γ t x y x' y' hx hy=>ih Γ t x y x' y' hx hy) e i.size len 0 Γ hl hm W h n w hS);exact run_equalIn_array D t e len i _ _ hd hi w
     ·exact ak.fail
  ·rename_i e _ _ b _ _ hd;cases hx;cases hy with
   |nilslice=>exact ak.ok hS (b:=true) (by simp[Op.equalIn,aE hd]) rfl
   |slice=>exact ak.ok hS (b:=false) (by simp[Op.equalIn,aE hd]) rfl
  ·rename_i hd;cases hx;cases hy;exact ak.ok hS (b:=false) (by simp[Op.equalIn,aE hd]) rfl
  ·rename_i hd;cases hx;cases hy with
   |jv=>exact ak.ok hS (b:=true) (by simp[Op.equalIn,aE hd]) rfl
   |map=>exact ak.ok hS (b:=false) (by simp[Op.equalIn,aE hd]) rfl
  ·rename_i hd;cases hx;cases hy;exact ak.ok hS (b:=false) (by simp[Op.equalIn,aE hd]) rfl
  ·rename_i hd;cases hx;cases hy;exact ak.ok hS (b:=true) (by simp[Op.equalIn,aE hd]) rfl
  ·rename_i hd;cases hx;cases hy;exact ak.ok hS (b:=false) (by simp[Op.equalIn,aE hd]) rfl
  ·rename_i hd;cases hx;cases hy;exact ak.ok hS (b:=false) (by simp[Op.equalIn,aE hd]) rfl
  ·exact ak.fail
end
end Go.Am
