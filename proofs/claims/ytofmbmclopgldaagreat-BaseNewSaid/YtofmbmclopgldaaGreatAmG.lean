/-
  A part of the proof: contracts of inner functions.
-/
import Derived.Test.YtofmbmclopgldaaGreatAmE
import Derived.Laws.StructEq
set_option linter.unusedSimpArgs false
set_option linter.unusedVariables false
namespace Go.Am
open Go.RowKit
section
variable {P:Program} {Γ:br} {W w:World} {h:PT ak} {n:Nat}
theorem aF.dQ {l l' vs vs':List Value} (hl:aF Γ l l') (hv:aF Γ vs vs') (off:Nat):aF Γ (Am.dQ l off vs) (Am.dQ l' off vs'):=by
 unfold Am.dQ
 rw[hv.length]
 exact((hl.take off).append hv).append (hl.drop _)
theorem zT (l:List Value) (i:Nat) (v:Value):(⟨l⟩:Array Value).setIfInBounds i v=⟨l.set i v⟩:=by
 apply Array.ext'
 simp
theorem qh:∀ (vs:List Value) (k:Nat) (l:List Value) (off:Nat),off+k+vs.length≤l.length→
  (vs.zipIdx k).foldl (fun (cs:Array Value) (p:Value×Nat)=>cs.setIfInBounds (off+p.2) p.1) ⟨l⟩=⟨Am.dQ l (off+k) vs⟩
 | [],k,l,off,h=>by simp[Am.dQ]
 |v::vs,k,l,off,h=>by
  simp only[List.length_cons] at h
  simp only[List.zipIdx_cons,List.foldl_cons,zT]
  rw[qh vs (k+1) (l.set (off+k) v) off (by simp;omega)]
  congr 1
  unfold Am.dQ
  have hlt:off+k<l.length:=by omega
  rw[List.set_eq_take_append_cons_drop,if_pos hlt]
  have e1:(List.take (off+k) l).length=off+k:=by simp;omega
  rw[show off+(k+1)=off+k+1 by omega]
  rw[List.take_append,List.drop_append,e1]
  simp only[List.length_cons]
  rw[List.take_of_length_le (by omega),show off+k+1-(off+k)=1 by omega,List.take_succ_cons,List.take_zero]
  rw[List.drop_of_length_le (l:=List.take (off+k) l) (by omega),show off+k+1+vs.length-(off+k)=vs.length+1 by omega,List.drop_succ_cons,List.drop_drop]
  simp[show off+k+1+vs.length=off+k+(vs.length+1) by omega]
inductive jN (Γ:br):List (Nat×Value)→List (Nat×Value)→Prop
 |nil:jN Γ [] []
 |cons (i:Nat) (v v':Value) (l l':List (Nat×Value)) (h:aA Γ v v') (t:jN Γ l l'):jN Γ ((i,v)::l) ((i,v')::l')
theorem jN.map {ρ ρ':Operand→Value}:∀ (l:List (Nat×Operand)),(∀ p∈l,aA Γ (ρ p.2) (ρ' p.2))→jN Γ (l.map fun p=>(p.1,ρ p.2)) (l.map fun p=>(p.1,ρ' p.2))
 | [],_ => .nil
 |p::l,h => .cons _ _ _ _ _ (h p (by simp)) (jN.map l fun q hq=>h q (by simp[hq]))
theorem ot (place:Nat→Option (Nat×Nat)):∀ (ps ps':List (Nat×Value)) (l l' out:List Value),jN Γ ps ps'→aF Γ l l'→gi place l ps=some out→
  ∃ out',Instr.fill place ⟨l'⟩ ps'=some ⟨out'⟩∧aF Γ out out'
 | [],ps',l,l',out,hp,hl,e=>by
  cases hp
  obtain rfl:l=out:=by simpa [gi] using e
  exact⟨l',rfl,hl⟩
 |p::ps,ps',l,l',out,hp,hl,e=>by
  cases hp with
  |cons i v v' _ ps' hv hps=>
   simp only[gi] at e
   cases Lz:place i with
   |none=>simp[Lz] at e
   |some q=>
    obtain⟨off,size⟩:=q
    simp only[Lz] at e
    cases hc:(Nat.beq v.cells.toList.length size&&Nat.ble (off+v.cells.toList.length) l.length) with
    |false=>rw[hc] at e;simp at e
    |true=>
     simp only[hc,cond_true] at e
     simp only[Bool.and_eq_true] at hc
     have h1:=Nat.eq_of_beq_eq_true hc.1
     have h2:=Nat.le_of_ble_eq_true hc.2
     have hlen:=hv.cells.length
     have Vu:=hl.length
     have hsz:v'.cells.size=size:=by rw[←h1,←hlen];simp
     obtain⟨out',hf,ho⟩:=ot place ps ps' _ (Am.dQ l' off v'.cells.toList) out hps (hl.dQ hv.cells off) e
     refine⟨out',?_,ho⟩
     have hle: ¬ (off+v'.cells.size>(⟨l'⟩:Array Value).size):=by
      have:(⟨l'⟩:Array Value).size=l'.length:=rfl
      have h3:v'.cells.size=v'.cells.toList.length:=by simp
      omega
     simp only[Instr.fill,Lz,hsz,ne_eq,not_true_eq_false,decide_false,Bool.false_or]
     rw[if_neg (by simpa [hsz] using hle)]
     have:=qh v'.cells.toList 0 l' off (by omega)
     simp only[Nat.add_zero] at this
     rw[←hf,←this]
     congr 1
     rw[←Array.foldl_toList]
     simp
theorem kU:∀ (fs:List Field) (ps:List (Nat×Nat)),dS P fs=some ps→∀ w,(fs.mapM fun f=>Prod.mk f.offset<$>(sizeOf f.type:Sem Nat)).run P w = .ok ps w
 | [],ps,h,w=>by simp[dS] at h;subst h;simp
 |f::fs,ps,h,w=>by
  simp only[dS] at h
  split at h
  ·rename_i i l hi hl
   obtain rfl:=Option.some.inj h
   simp[List.mapM_cons,bz hi,kU fs l hl]
  ·simp at h
theorem qQ (fs:Array Field) (ps:List (Nat×Nat)) (h:dS P fs.toList=some ps) (w:World):(fs.mapM fun f=>Prod.mk f.offset<$>(sizeOf f.type:Sem Nat)).run P w = .ok ⟨ps⟩ w:=by
 have:=kU (P:=P) fs.toList ps h w
 rw[Array.mapM_eq_mapM_toList]
 simp[this]
theorem zU {t:TypeId} {ps ps':List (Nat×Value)} (hp:jN Γ ps ps'):fD P Γ (nI P t ps) (Instr.build t ⟨ps'⟩) aA:=by
 intro W h n w hS
 unfold nI
 split
 ·rename_i z fs hz hd
  obtain⟨xl,xB⟩:=cM hz
  split
  ·rename_i pl Lz
   split
   ·rename_i l hl
    obtain⟨out',hf,ho⟩:=ot _ ps ps' _ _ l hp (xB Γ).cells hl
    refine aj.ok hS (b := .agg ⟨out'⟩) ?_ (.agg _ _ ho)
    have hf':Instr.fill (fun (x:Nat)=>pl[x]?) z.cells ps'=some ⟨out'⟩:=hf
    simp[Instr.build,xl,az hd,qQ fs pl Lz,hf']
   ·exact aj.fail
  ·exact aj.fail
 ·rename_i z len e hz hd
  obtain⟨xl,xB⟩:=cM hz
  split
  ·rename_i i hi
   split
   ·rename_i l hl
    obtain⟨out',hf,ho⟩:=ot _ ps ps' _ _ l hp (xB Γ).cells hl
    refine aj.ok hS (b := .agg ⟨out'⟩) ?_ (.agg _ _ ho)
    have hf':Instr.fill (fun j=>some (j*i.size,i.size)) z.cells ps'=some ⟨out'⟩:=by
     rw[←hf]
    simp[Instr.build,xl,az hd,bz hi,hf']
   ·exact aj.fail
  ·exact aj.fail
 ·exact aj.fail
theorem zV (z:List Value) (k:Nat):(rep z k).length=k*z.length:=by
 induction k with
 |zero=>simp[rep]
 |succ k ih=>simp[rep,ih,Nat.succ_mul,Nat.add_comm]
theorem BM (z:List Value):∀ (k i:Nat),i<k*z.length→(rep z k)[i]? = z[i%z.length]?
 |0,i,h=>by omega
 |k+1,i,h=>by
  simp only[rep]
  by_cases hi:i<z.length
  ·rw[List.getElem?_append_left hi,Nat.mod_eq_of_lt hi]
  ·rw[List.getElem?_append_right (by omega),BM z k (i-z.length) (by rw[Nat.succ_mul] at h;omega)]
   congr 1
   rw[Nat.mod_eq_sub_mod (by omega:i≥z.length)]
theorem mL (z:Array Value) (k:Nat) (hz:0<z.size):(Array.range (k*z.size)).map (fun j=>z[j%z.size]!)=⟨rep z.toList k⟩:=by
 apply Array.ext'
 apply List.ext_getElem?
 intro i
 simp only[Array.toList_map,Array.toList_range,List.getElem?_map]
 by_cases hi:i<k*z.size
 ·have hm:i%z.size<z.size:=Nat.mod_lt _ hz
  rw[BM _ _ _ (by simpa using hi)]
  simp[hi,hm,getElem!_pos]
 ·have:(rep z.toList k).length≤i:=by rw[zV];simpa using hi
  rw[List.getElem?_eq_none this]
  simp[hi]
theorem aF.rep {z z':List Value} (h:aF Γ z z'):∀ k,aF Γ (rep z k) (rep z' k)
 |0 => .nil
 |k+1=>h.append (aF.rep h k)
theorem qR {t:TypeId} {len:Nat} {ps ps':List (Nat×Value)} (hp:jN Γ ps ps'):fD P Γ (eu P t len ps) (Instr.buildSlice t len ⟨ps'⟩) aA:=by
 intro W h n w hS
 unfold eu
 split
 ·rename_i e hd
  split
  ·rename_i i z hi hz
   obtain⟨xl,xB⟩:=cM hz
   cases hc:(Nat.ble (len*i.size) 16777216&&Nat.beq z.cells.toList.length i.size&&Nat.blt 0 i.size) with
   |false=>exact aj.fail
   |true=>
    simp only[cond_true]
    simp only[Bool.and_eq_true] at hc
    have h1:=Nat.le_of_ble_eq_true hc.1.1
    have h2:=Nat.eq_of_beq_eq_true hc.1.2
    have h3:0<i.size:=Nat.blt_eq.mp hc.2
    split
    ·rename_i l hl
     obtain⟨out',hf,ho⟩:=ot _ ps ps' _ _ l hp ((xB Γ).cells.rep len) hl
     refine aj.new fun hn=>?_
     obtain⟨aS,hst,hb,_,iO⟩:=hS.j7 hn l ⟨out'⟩ e (fun i v hv=>by simpa using ho.get hv)
     refine⟨aS,w.alloc (.cells ⟨out'⟩ e),pure (.slice (some ⟨w.heap.size,0,none⟩) len len),hst,?_,aj.ok iO rfl ?_⟩
     ·have hzs:z.cells.size=i.size:=by rw[←h2];simp
      have CH:(if len*i.size=0 then (#[]:Array Value) else z.cells)=if len*i.size=0 then #[] else z.cells:=rfl
      have hmap:(Array.range (len*i.size)).map (fun j=>(if len*i.size=0 then (#[]:Array Value) else z.cells)[j%(if len*i.size=0 then (#[]:Array Value) else z.cells).size]!)=⟨rep z.cells.toList len⟩:=by
       by_cases h0:len=0
       ·subst h0;simp[rep]
       ·have:len*i.size≠0:=Nat.mul_ne_zero h0 (by omega)
        simp only[this,if_false]
        rw[←hzs]
        exact mL z.cells len (by omega)
      by_cases h0:len*i.size=0
      ·simp only[h0,if_true] at hmap
       have EA:(⟨rep z.cells.toList len⟩:Array Value)=#[]:=by rw[←hmap];simp
       have EB:Instr.fill (fun j=>some (j*i.size,i.size)) #[] ps'=some ⟨out'⟩:=by rw[←hf,EA]
       have jq:Array.map (fun _=>(default:Value)) (Array.range 0)=#[]:=by simp[Array.range]
       simp[Instr.buildSlice,az hd,bz hi,h0,Go.newRow]
       rw[jq,EB]
       simp
      ·simp only[h0,if_false] at hmap
       have EA:Array.map (fun j=>z.cells[j%z.cells.size]!) (Array.range (len*i.size))=⟨rep z.cells.toList len⟩:=hmap
       have EB:Instr.fill (fun j=>some (j*i.size,i.size)) (Array.map (fun j=>z.cells[j%z.cells.size]!) (Array.range (len*i.size))) ps'=some ⟨out'⟩:=by rw[←hf,EA]
       have EC: ¬ (len*i.size>2^24):=by omega
       simp only[Instr.buildSlice,Sem.run_bind,az hd,Result.andThen_ok,bz hi,Sem.run_ite,EC,if_false,h0,xl,Sem.run_pure,EB,Go.newRow,run_newObj]
       rfl
     ·refine .slice _ _ _ _ _ (.inl ⟨rfl,rfl,0,by simpa using hb,by simp⟩) ?_
      have hlt:len<aB:=by
       have:len≤len*i.size:=Nat.le_mul_of_pos_right _ h3
       unfold aB;omega
      unfold br.cap
      rw[if_neg (by omega)]
    ·exact aj.fail
  ·exact aj.fail
 ·exact aj.fail
end
end Go.Am
set_option linter.unusedSimpArgs false
set_option linter.unusedVariables false
namespace Go.Am
open Go.RowKit
section
variable {P:Program} {Γ:br} {W w:World} {h:PT ak} {n:Nat}
def jr (P:Program) (D:Nat) (e:TypeId) (size:Nat) (xs ys:Array Value):List Nat→Sem Bool
 | []=>pure true
 |i::r=>do
  let a ←part e xs (i*size)
  let b ←part e ys (i*size)
  let q ←Op.equalIn D e a b
  if (!q)=true then pure false else jr P D e size xs ys r
theorem run_equalIn_array (D:Nat) (t e:TypeId) (len:Nat) (i:TypeInfo) (xs ys:Array Value) (ht:P.underlying t=some (.array len e)) (hi:P.info? e=some i) (w:World):
  (Op.equalIn (D+1) t (.agg xs) (.agg ys)).run P w=(jr P D e i.size xs ys (List.range' 0 len)).run P w:=by
 simp only[Op.equalIn,Sem.run_bind,run_underlying ht,Result.andThen_ok,bz hi]
 rw[Std.Legacy.Range.forIn_eq_forIn_range']
 simp only[Std.Legacy.Range.size,Nat.sub_zero,Nat.add_sub_cancel,Nat.div_one]
 generalize List.range' 0 len 1=l
 induction l generalizing w with
 |nil=>simp[jr]
 |cons f fs ih=>
  simp only[List.forIn_cons,jr,Sem.run_bind,Sem.run_ite]
  ·generalize (part e xs (f*i.size)).run P w=r1
   cases r1 with
   |ok a w1=>
    simp only[Result.andThen_ok]
    generalize (part e ys (f*i.size)).run P w1=r2
    cases r2 with
    |ok b w2=>
     simp only[Result.andThen_ok]
     generalize (Op.equalIn D e a b).run P w2=r3
     cases r3 with
     |ok r w3=>
      cases r
      ·simp only[Result.andThen_ok,Bool.not_false,if_true,Sem.run_pure]
      ·simp only[Result.andThen_ok,Bool.not_true,Bool.false_eq_true,if_false,Sem.run_pure]
       exact ih w3
     |halt x w3=>simp[Result.andThen]
    |halt x w2=>simp[Result.andThen]
   |halt x w1=>simp[Result.andThen]
def R4 (_:br) (a b:Bool):Prop:=a=b
theorem j8 (D:Nat) (zM:TypeId→Value→Value→AP Bool) (heq:∀ (Γ:br) t x y x' y',aA Γ x x'→aA Γ y y'→fD P Γ (zM t x y) (Op.equalIn D t x' y') R4)
  {xs ys xs' ys':List Value}:∀ (fs:List Field) (Γ:br),aF Γ xs xs'→aF Γ ys ys'→fD P Γ (lf P zM xs ys fs) (Op.eqFields D ⟨xs'⟩ ⟨ys'⟩ fs) R4
 | [],Γ,_,_=>fun W h n w hS=>aj.ok hS rfl rfl
 |f::fs,Γ,hx,hy=>by
  intro W h n w hS
  unfold lf Op.eqFields
  split
  ·rename_i hn
   split
   ·rename_i a b ha hb
    obtain⟨a',hra,hva⟩:=fq hx ha
    obtain⟨b',hrb,hvb⟩:=fq hy hb
    refine aj.congr (w':=w) (e':=do
      let r ←Op.equalIn D f.type a' b'
      if (!r)=true then pure false else Op.eqFields D ⟨xs'⟩ ⟨ys'⟩ fs) ?_ ?_
    ·simp[hra,hrb]
    ·refine aj.bind (heq Γ _ _ _ _ _ hva hvb W h n w hS) fun aS q q' hle hq=>?_
     obtain rfl:q=q':=hq
     intro W h n w hS
     cases q
     ·exact aj.ok hS rfl rfl
     ·exact j8 D zM heq fs aS (hx.mono hle) (hy.mono hle) W h n w hS
   ·exact aj.fail
  ·exact j8 D zM heq fs Γ hx hy W h n w hS
theorem qi (D:Nat) (zM:TypeId→Value→Value→AP Bool) (heq:∀ (Γ:br) t x y x' y',aA Γ x x'→aA Γ y y'→fD P Γ (zM t x y) (Op.equalIn D t x' y') R4)
  (e:TypeId) (size:Nat) {xs ys xs' ys':List Value}:∀ (k i:Nat) (Γ:br),aF Γ xs xs'→aF Γ ys ys'→fD P Γ (qZ P zM e size xs ys k i) (jr P D e size ⟨xs'⟩ ⟨ys'⟩ (List.range' i k)) R4
 |0,i,Γ,_,_=>fun W h n w hS=>aj.ok hS rfl rfl
 |k+1,i,Γ,hx,hy=>by
  intro W h n w hS
  unfold qZ
  rw[List.range'_succ]
  unfold jr
  split
  ·rename_i a b ha hb
   obtain⟨a',hra,hva⟩:=fq hx ha
   obtain⟨b',hrb,hvb⟩:=fq hy hb
   refine aj.congr (w':=w) (e':=do
     let r ←Op.equalIn D e a' b'
     if (!r)=true then pure false else jr P D e size ⟨xs'⟩ ⟨ys'⟩ (List.range' (i+1) k)) ?_ ?_
   ·simp[hra,hrb]
   ·refine aj.bind (heq Γ _ _ _ _ _ hva hvb W h n w hS) fun aS q q' hle hq=>?_
    obtain rfl:q=q':=hq
    intro W h n w hS
    cases q
    ·exact aj.ok hS rfl rfl
    ·exact qi D zM heq e size k (i+1) aS (hx.mono hle) (hy.mono hle) W h n w hS
  ·exact aj.fail
set_option maxHeartbeats 4000000 in
theorem rU:∀ (d D:Nat) (_:d≤D) (Γ:br) (t:TypeId) (x y x' y':Value),aA Γ x x'→aA Γ y y'→fD P Γ (bN P d t x y) (Op.equalIn D t x' y') R4
 |0,D,_,Γ,t,x,y,x',y',hx,hy=>fun W h n w hS=>aj.fail
 |d+1,0,hD,Γ,t,x,y,x',y',hx,hy=>absurd hD (by omega)
 |d+1,D+1,hD,Γ,t,x,y,x',y',hx,hy=>by
  intro W h n w hS
  have ih:=rU d D (by omega)
  unfold bN
  split
  ·rename_i a b hd
   cases hx;cases hy
   exact aj.ok hS (b:=a==b) (by simp[Op.equalIn,az hd]) rfl
  ·rename_i k0 k a k' b hd
   cases hx;cases hy
   split
   ·rename_i hk
    exact aj.ok hS (b:=a==b) (by simp[Op.equalIn,az hd,hk]) rfl
   ·exact aj.fail
  ·rename_i a b hd
   cases hx;cases hy
   exact aj.ok hS (b:=a==b) (by simp[Op.equalIn,az hd]) rfl
  ·rename_i e b hd
   cases hx
   cases hy with
   |eH=>exact aj.ok hS (b:=true) (by simp[Op.equalIn,az hd]) rfl
   |ptr a a' ha=>exact aj.ok hS (b:=false) (by simp[Op.equalIn,az hd]) rfl
  ·rename_i e a hd
   cases hx with
   |ptr _ a' ha=>
    cases hy
    exact aj.ok hS (b:=false) (by simp[Op.equalIn,az hd]) rfl
  ·rename_i e a b hd
   cases hx with
   |ptr _ a' ha=>
    cases hy with
    |ptr _ b' hb=>
     split
     ·rename_i i hi
      cases hz:Nat.beq i.size 0 with
      |true=>exact aj.fail
      |false=>
       have hz:i.size≠0:=fun e=>by rw[e] at hz;exact Bool.noConfusion hz
       have hrun:∀ w,(Op.equalIn (D+1) t (.pointer (some a')) (.pointer (some b'))).run P w=(sameAddr a' b').run P w:=by
        intro w;simp[Op.equalIn,az hd,bz hi,hz]
       obtain⟨s,e1,o1⟩:=ha.at_
       obtain⟨s',e2,o2⟩:=hb.at_
       simp only[cond_false]
       cases mM:Nat.beq a.block b.block with
       |true=>
        have mM:=Nat.eq_of_beq_eq_true mM
        rw[mM,e2] at e1
        obtain⟨hbe,rfl⟩:b'.block=a'.block∧s'=s:=by simpa using e1
        refine aj.ok hS (b:=a'==b') ?_ ?_
        ·rw[hrun];simp[sameAddr,hbe]
        ·show Nat.beq a.off b.off=(a'==b')
         have h1:=ha.spot';have h2:=hb.spot'
         rw[Bool.eq_iff_iff]
         constructor
         ·intro hq
          have:=Nat.eq_of_beq_eq_true hq
          obtain⟨ab,ao,as⟩:=a';obtain⟨bb,bo,bs⟩:=b'
          simp_all
         ·intro hq
          have hq:a'=b':=by simpa using hq
          rw[hq,o2] at o1
          have:a.off=b.off:=by omega
          rw[this];exact Nat.beq_refl _
       |false=>
        have hne:a.block≠b.block:=fun e=>by rw[e,Nat.beq_refl] at mM;exact Bool.noConfusion mM
        simp only[cond_false]
        refine aj.get fun A hA=>?_
        split
        ·rename_i ca
         refine aj.get fun B hB=>?_
         split
         ·rename_i cb
          have MZ:=hS.j6 _ _ _ _ _ _ _ _ hne hA hB e1 e2 rfl
          obtain⟨_,_,_,⟨csa,ela,fza,ha1,ha2,_⟩,_⟩:=hS.block hA ha rfl
          obtain⟨_,_,_,⟨csb,elb,fzb,vC,uC,_⟩,_⟩:=hS.block hB hb rfl
          obtain rfl:=ha2 rfl
          obtain rfl:=uC rfl
          refine aj.ok hS (b:=false) ?_ rfl
          rw[hrun]
          have fa:∀ o,World.frozen? w ⟨a'.block,o,none⟩=false:=fun o=>by simp[World.frozen?,ha1]
          have fb:∀ o,World.frozen? w ⟨b'.block,o,none⟩=false:=fun o=>by simp[World.frozen?,vC]
          have fa':w.frozen? a'=false:=by simp[World.frozen?,ha1]
          have fb':w.frozen? b'=false:=by simp[World.frozen?,vC]
          have sa:w.shape? a'.block=some (ela,csa.size):=by simp[World.shape?,ha1]
          have sb:w.shape? b'.block=some (elb,csb.size):=by simp[World.shape?,vC]
          simp[sameAddr,MZ,fa',fb',noView,viewAt,sa,sb,mayBeOne,stringish,fa,fb]
         ·exact aj.fail
        ·exact aj.fail
     ·exact aj.fail
  ·rename_i ms hd
   cases hx;cases hy
   exact aj.ok hS (b:=true) (by simp[Op.equalIn,az hd]) rfl
  ·rename_i ms _ _ hd
   cases hx;cases hy
   exact aj.ok hS (b:=false) (by simp[Op.equalIn,az hd]) rfl
  ·rename_i ms _ _ hd
   cases hx;cases hy
   exact aj.ok hS (b:=false) (by simp[Op.equalIn,az hd]) rfl
  ·rename_i ms tx vx ty vy hd
   cases hx with
   |iface _ _ vx' hvx=>
    cases hy with
    |iface _ _ vy' hvy=>
     split
     ·rename_i hty
      subst hty
      split
      ·rename_i i hi
       cases hc:i.comparable with
       |false=>exact aj.fail
       |true=>
        refine aj.congr (w':=w) (e':=Op.equalIn D tx vx' vy') ?_ (ih Γ tx vx vy vx' vy' hvx hvy W h n w hS)
        simp[Op.equalIn,az hd,dr hi,hc]
      ·exact aj.fail
     ·rename_i hty
      exact aj.ok hS (b:=false) (by simp[Op.equalIn,az hd,hty]) rfl
  ·rename_i fs xs ys hd
   cases hx with
   |agg l l' hl=>
    cases hy with
    |agg m m' hm=>
     cases hs:P.stoodInHeld t with
     |true=>exact aj.fail
     |false=>
      simp only[cond_false]
      have hfo:P.fieldsOf t=fs:=by simp[Program.fieldsOf,hd]
      refine aj.congr (w':=w) (e':=Op.eqFields D ⟨l'⟩ ⟨m'⟩ fs.toList) ?_ (j8 D _ (fun Γ t x y x' y' hx hy=>ih Γ t x y x' y' hx hy) fs.toList Γ hl hm W h n w hS)
      rw[run_equalIn_struct w D t _ _ (by rw[hfo];exact hd) hs,hfo]
  ·rename_i len e xs ys hd
   cases hx with
   |agg l l' hl=>
    cases hy with
    |agg m m' hm=>
     split
     ·rename_i i hi
      refine aj.congr (w':=w) (e':=jr P D e i.size ⟨l'⟩ ⟨m'⟩ (List.range' 0 len)) ?_ (qi D _ (fun Γ t x y x' y' hx hy=>ih Γ t x y x' y' hx hy) e i.size len 0 Γ hl hm W h n w hS)
      exact run_equalIn_array D t e len i _ _ hd hi w
     ·exact aj.fail
  ·rename_i e _ _ b _ _ hd
   cases hx
   cases hy with
   |nilslice=>exact aj.ok hS (b:=true) (by simp[Op.equalIn,az hd]) rfl
   |slice=>exact aj.ok hS (b:=false) (by simp[Op.equalIn,az hd]) rfl
  ·rename_i hd
   cases hx;cases hy
   exact aj.ok hS (b:=false) (by simp[Op.equalIn,az hd]) rfl
  ·rename_i hd
   cases hx
   cases hy with
   |gK=>exact aj.ok hS (b:=true) (by simp[Op.equalIn,az hd]) rfl
   |map=>exact aj.ok hS (b:=false) (by simp[Op.equalIn,az hd]) rfl
  ·rename_i hd
   cases hx;cases hy
   exact aj.ok hS (b:=false) (by simp[Op.equalIn,az hd]) rfl
  ·rename_i hd
   cases hx;cases hy
   exact aj.ok hS (b:=true) (by simp[Op.equalIn,az hd]) rfl
  ·rename_i hd
   cases hx;cases hy
   exact aj.ok hS (b:=false) (by simp[Op.equalIn,az hd]) rfl
  ·rename_i hd
   cases hx;cases hy
   exact aj.ok hS (b:=false) (by simp[Op.equalIn,az hd]) rfl
  ·exact aj.fail
end
end Go.Am
