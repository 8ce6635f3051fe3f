/-
A part.
-/
import Derived.Test.YtofmbmclopgldaaGreatAmK
set_option linter.all false
namespace Go.Am
open Go.RowKit
section
variable {P:Program} {Γ:bL} {W w:World} {h:PT aj} {n:Nat}
theorem oH{t tx e:TypeId}{dx:TypeDesc}{i:TypeInfo}(ty:TypeId)(hd:P.underlying t=some (.slice e))(Fq:P.underlying tx=some dx)(hni:∀ k,dx ≠ .int k)(hi:P.info? e=some i)
  {base:Option Addr} {len cap' k:Nat} {x':Value} {l':List Value} (hlen:∀ w,(Builtin.lenOf x').run P w = .ok k w) (xd:(Builtin.firstCells i.size k x').run P w = .ok ⟨l'⟩ w) (hroom:len+k≤cap'):
  (Builtin.append_ #[t,tx] ty #[.slice base len cap',x']).run P w=
   match base with
   |some a=>((storeCells (a.add (len*i.size)) l').run P w).andThen fun _ w => .ok (.slice base (len+k) cap') w
   |none => .ok (.slice base (len+k) cap') w:=by
 unfold Builtin.append_;simp only[List.getElem?_toArray,List.getElem?_cons_zero,List.getElem?_cons_succ,Sem.run_bind,aE hd,aE Fq,Result.andThen_ok,bS hi,Sem.run_pure];simp only[Bool.false_eq_true,if_false,hlen,Result.andThen_ok,hroom,if_true,Sem.run_bind,Bool.not_false,xd];cases base with
 |none=>rfl
 |some a=>simp only[Sem.run_bind,Sem.run_pure]
theorem uL{t tx e:TypeId}{dx:TypeDesc}{i:TypeInfo}{z:Value}(ty:TypeId)(hd:P.underlying t=some (.slice e))(Fq:P.underlying tx=some dx)(hni:∀ k,dx ≠ .int k)(hi:P.info? e=some i)
  (hz:∀ w,(zeroValue e).run P w = .ok z w) {base:Option Addr} {len cap' k:Nat} {x':Value} {l' old':List Value} (hlen:∀ w,(Builtin.lenOf x').run P w = .ok k w)
  (xd:(Builtin.firstCells i.size k x').run P w.drew = .ok ⟨l'⟩ w.drew) (hold:(Builtin.firstCells i.size len (.slice base len cap')).run P w.drew = .ok ⟨old'⟩ w.drew)
  (hroom: ¬ len+k≤cap') (hsmall:len+k≤1048576) (hbytes:i.bytes≤65536):
  ∃ iX,len+k≤iX∧(Builtin.append_ #[t,tx] ty #[.slice base len cap',x']).run P w=
   .ok (.slice (some ⟨w.heap.size,0,none⟩) (len+k) iX) (w.drew.alloc (.cells ((⟨old'⟩:Array Value)++⟨l'⟩++Builtin.zeroCells z.cells (iX-(len+k))) e)):=by
 refine⟨Question.cut (.appendCap (len+k) cap' e) (w.tape w.drawn (.appendCap (len+k) cap' e)),by simp[Question.cut],?_⟩;unfold Builtin.append_;simp only[List.getElem?_toArray,List.getElem?_cons_zero,List.getElem?_cons_succ,Sem.run_bind,aE hd,aE Fq,Result.andThen_ok,bS hi,Sem.run_pure];have Mi: ¬ (((len+k:Nat):Int)>IntKind.i64.max∧(False∨i.bytes=0)):=by
  intro hh;have:IntKind.i64.max=9223372036854775807:=by simp[IntKind.max,IntKind.signed,IntKind.bits]
  rw[this] at hh;omega
 have hnext: ¬ (Builtin.nextslicecap (len+k) cap'*i.bytes>2^48):=by
  have h1:=nextslicecap_le (need:=len+k) (c:=cap') hsmall qJ;have h2:Builtin.nextslicecap (len+k) cap'*i.bytes≤16777216*65536:=Nat.mul_le_mul h1 hbytes;omega
 simp only[Bool.false_eq_true,if_false,hlen,Result.andThen_ok,hroom,Sem.run_bind,Bool.not_false,if_true,eO hi];rw[if_neg Mi];simp only[Sem.run_bind,Sem.run_pure,Result.andThen_ok,eO hi];rw[if_neg hnext];have JN:({ w with drawn:=w.drawn+1 }:World)=w.drew:=rfl;simp only[Sem.run_bind,Sem.run_pure,Result.andThen_ok,run_choose,Question.forced,Bool.false_eq_true,if_false,eO hi,run_askRoom,JN,hold,xd,hz,Go.newRow,run_newObj];rfl
theorem Dg{t tx e:TypeId}{kx:IntKind}{i:TypeInfo}{z:Value}(ty:TypeId)(hd:P.underlying t=some (.slice e))(Fq:P.underlying tx=some (.int kx))(hi:P.info? e=some i)
  (hz:∀ w,(zeroValue e).run P w = .ok z w) {k:IntKind} {n:Nat} (hn:0<n) (hs:0<i.size) (hsmall:0+n≤1048576) (hbytes:i.bytes≤65536) (hzs:z.cells.size=i.size):
  ∃ iX,0+n≤iX∧(Builtin.append_ #[t,tx] ty #[.slice none 0 0,.int k n]).run P w=
   .ok (.slice (some ⟨w.heap.size,0,none⟩) (0+n) iX) (w.drew.alloc (.cells ((⟨[]⟩:Array Value)++⟨rep z.cells.toList n⟩++Builtin.zeroCells z.cells (iX-(0+n))) e)):=by
 refine⟨Question.cut (.appendCap (0+n) 0 e) (w.tape w.drawn (.appendCap (0+n) 0 e)),by simp[Question.cut],?_⟩;unfold Builtin.append_;simp only[List.getElem?_toArray,List.getElem?_cons_zero,List.getElem?_cons_succ,Sem.run_bind,aE hd,aE Fq,Result.andThen_ok,bS hi,Sem.run_pure];have hwrap:IntKind.i64.wrap (n:Int)=n:=by
  simp[IntKind.wrap,IntKind.bits,IntKind.signed];omega
 have XV:(asInt (.int k n)).run P w = .ok (n:Int) w:=rfl;have hneg: ¬ ((n:Int)<0):=by omega
 have acI: ¬ ((n:Int)*(i.bytes:Nat)>2^48):=by
  have h2:n*i.bytes≤1048576*65536:=Nat.mul_le_mul qJ hbytes;have:(n:Int)*(i.bytes:Nat)=((n*i.bytes:Nat):Int):=by simp
  rw[this];omega
 have Mi: ¬ (((0+n:Nat):Int)>IntKind.i64.max∧(True∨i.bytes=0)):=by
  intro hh;have:IntKind.i64.max=9223372036854775807:=by simp[IntKind.max,IntKind.signed,IntKind.bits]
  rw[this] at hh;omega
 have hnext: ¬ (Builtin.nextslicecap (0+n) 0*i.bytes>2^48):=by
  have h1:=nextslicecap_le (need:=0+n) (c:=0) hsmall qJ;have h2:Builtin.nextslicecap (0+n) 0*i.bytes≤16777216*65536:=Nat.mul_le_mul h1 hbytes;omega
 have hroom: ¬ 0+n≤0:=by omega
 have XW: ¬ n*i.size=0:=by
  have:=Nat.mul_pos hn hs;omega
 simp only[XV,Result.andThen_ok,hwrap,if_true,hneg,if_false,eO hi,Sem.run_bind,Sem.run_pure];rw[if_neg acI];simp only[Sem.run_bind,Sem.run_pure,Result.andThen_ok,Int.toNat_natCast,Bool.not_true,Bool.false_eq_true,if_false,hroom,eO hi];rw[if_neg Mi];simp only[Sem.run_bind,Sem.run_pure,Result.andThen_ok,eO hi];rw[if_neg hnext];have JN:({ w with drawn:=w.drawn+1 }:World)=w.drew:=rfl;have xd:∀ w',(Builtin.firstCells i.size 0 (.slice none 0 0)).run P w' = .ok #[] w':=fun w'=>rfl;simp only[Sem.run_bind,Sem.run_pure,Result.andThen_ok,run_choose,Question.forced,Bool.false_eq_true,if_false,eO hi,run_askRoom,JN,xd,XW,hz,Go.newRow,run_newObj];have De:Builtin.zeroCells z.cells n=⟨rep z.cells.toList n⟩:=p_ z.cells n qJ;rw[De];rfl
theorem beq_true{a b:Nat}(h:Nat.beq a b=true):a=b:=Nat.eq_of_beq_eq_true h
theorem tR(hS:bK Γ W h w){i:TypeInfo}{z:Value}{len k:Nat}{old new old' new':List Value}(ho:aM Γ old old')(hn':aM Γ new new'){e:Sem Value}{el:TypeId}
  (he:len+k≤1048576→i.bytes≤65536→z.cells.size=i.size→∃ iX,len+k≤iX∧e.run P w = .ok (.slice (some ⟨w.heap.size,0,none⟩) (len+k) iX)
     (w.drew.alloc (.cells ((⟨old'⟩:Array Value)++⟨new'⟩++Builtin.zeroCells z.cells (iX-(len+k))) el))):
  ak P Γ W h n w (uD i z len k old new) e aD:=by
 unfold uD;cases hc:(Nat.ble (len+k) 1048576&&Nat.ble i.bytes 65536&&Nat.beq z.cells.toList.length i.size&&Nat.beq old.length (len*i.size)&&Nat.beq new.length (k*i.size)) with
 |false=>exact ak.fail
 |true=>
  simp only[Bool.and_eq_true] at hc;have h1:=Nat.le_of_ble_eq_true hc.1.1.1.1;have h2:=Nat.le_of_ble_eq_true hc.1.1.1.2;have h3:=beq_true hc.1.1.2;have h4:=beq_true hc.1.2;have h5:=beq_true hc.2;have hzs:z.cells.size=i.size:=by rw[←h3];simp
  obtain⟨iX,hle,hrun⟩:=he h1 h2 hzs;simp only[cond_true];refine ak.new fun hn=>?_;obtain⟨aY,hst,hb,hsz,ku⟩:=hS.drew.nh hn (old++new) ((⟨old'⟩:Array Value)++⟨new'⟩++Builtin.zeroCells z.cells (iX-(len+k))) el (fun i v hv=>by
   obtain⟨v',e',r⟩:=(ho.append hn').get hv;refine⟨v',?_,r⟩;have hlt:i<(old'++new').length:=by
    rcases Nat.lt_or_ge i (old'++new').length with hh |hh
    ·exact hh
    ·rw[List.getElem?_eq_none hh] at e';simp at e'
   rw[Array.getElem?_append_left (by simpa using hlt)]
   simpa using e')
  refine⟨aY,_,pure (.slice (some ⟨w.heap.size,0,none⟩) (len+k) iX),hst,hrun,ak.ok ku rfl (.slice _ _ _ _ _ (.inl ⟨rfl,rfl,0,by simpa using hb,by simp⟩) ?_)⟩;unfold bL.cap;rw[if_pos qJ];refine⟨hle,_,hsz,?_⟩;have hl1:=ho.length;have zo:=hn'.length;simp only[Array.size_append,Builtin.zeroCells,Array.size_map,Array.size_range,Nat.add_sub_cancel_left,Nat.zero_add,hzs];have e1:(⟨old'⟩:Array Value).size=len*i.size:=by show old'.length=_;omega
  have e2:(⟨new'⟩:Array Value).size=k*i.size:=by show new'.length=_;omega
  rw[e1,e2,←Nat.add_mul,←Nat.add_mul];exact Nat.mul_le_mul_right _ qJ
theorem oa:∀ (l':List Value) (k:Nat) (w:World) (a':Addr) (cs:Array Value) (el:TypeId),a'.spot=none→(∀ v∈l',v.oneCell'=true)→
  w.heap[a'.block]? = some (.cells cs el (0,0))→a'.off+k+l'.length≤cs.size→
  ∃ w₁ cs₁,(storeCells a' l' k).run P w = .ok () w₁∧w₁.heap[a'.block]? = some (.cells cs₁ el (0,0))∧cs₁.size=cs.size∧
   (∀ j,j<l'.length→cs₁[a'.off+k+j]? = l'[j]?)∧(∀ p,p<a'.off+k→cs₁[p]? = cs[p]?)∧
   (∀ (Γ:bL) (W:World) (h:PT aj),bK Γ W h w→W.heap.size≤a'.block→(∀ j B b s,h.get j=some B→Γ.blk j=some (b,s)→b≠a'.block)→bK Γ W h w₁)
 | [],k,w,a',cs,el,hs,ho,hb,hsz=>⟨w,cs,rfl,hb,rfl,fun j hj=>absurd hj (by simp),fun p _=>rfl,fun _ _ _ hS _ _=>hS⟩
 |v::l',k,w,a',cs,el,hs,ho,hb,hsz=>by
  simp only[List.length_cons] at hsz;have wQ:(a'.add k).block=a'.block∧(a'.add k).off=a'.off+k∧(a'.add k).spot=none:=by
   unfold Addr.add;split
   ·rename_i hk;exact⟨rfl,by omega,hs⟩
   ·exact⟨rfl,rfl,rfl⟩
  have H_:w.heap[(a'.add k).block]? = some (.cells cs el (0,0)):=by rw[wQ.1];exact hb
  have j8:=heap_setCell_same (v:=v) wQ.2.2 H_;rw[wQ.1,wQ.2.1] at j8;obtain⟨w₁,cs₁,hrun,hb₁,hsz₁,hnew,hold,hrel⟩:=oa l' (k+1) (w.setCell (a'.add k) v) a' (cs.setIfInBounds (a'.off+k) v) el hs (fun u hu=>ho u (by simp[hu])) j8 (by simp;omega);refine⟨w₁,cs₁,?_,hb₁,by simpa using hsz₁,?_,?_,?_⟩
  ·have hc:w.cell? (a'.add k)=some cs[a'.off+k]:=by
    rw[lI wQ.2.2 H_,wQ.2.1];simp[show a'.off+k<cs.size by omega]
   have hf:w.frozen? (a'.add k)=false:=by simp[World.frozen?,H_]
   simp only[storeCells,Sem.run_bind,run_store P w _ _ .plain (ho v (by simp)),hc,hf]
   simpa using hrun
  ·intro j hj;cases j with
   |zero=>
    rw[hold _ qJ];simp[show a'.off+k<cs.size by omega]
   |succ j=>
    have:=hnew j (by simpa using hj);rw[show a'.off+k+(j+1)=a'.off+(k+1)+j by omega,this];simp
  ·intro p hp;rw[hold p qJ,Array.getElem?_setIfInBounds_ne qJ]
  ·intro Γ W h hS iI hfree;refine hrel Γ W h (hS.Da wQ.2.2 v (by rw[wQ.1];exact iI) (fun j B b s hj hb=>by rw[wQ.1];exact hfree j B b s hj hb)) iI hfree
theorem aM.bw{l l':List Value}(hl:aM Γ l l')(ha:l.all Am.bw=true):∀ v∈l',v.oneCell'=true:=by
 induction l generalizing l' with
 |nil=>cases hl;simp
 |cons v l ih=>
  cases hl with
  |cons _ v' _ l' hv ht=>
   simp only[List.all_cons,Bool.and_eq_true] at ha;intro u hu
   rcases List.mem_cons.1 hu with rfl |hu
   ·exact hv.oneCell' ha.1
   ·exact ih ht ha.2 u hu
theorem qF(hS:bK Γ W h w){t tx e:TypeId}{dx:TypeDesc}{i:TypeInfo}{z:Value}(ty:TypeId)(hd:P.underlying t=some (.slice e))(Fq:P.underlying tx=some dx)(hni:∀ k,dx ≠ .int k)(hi:P.info? e=some i)
  (hz:∀ w,(zeroValue e).run P w = .ok z w) {base base':Option Addr} {len cap cap' k:Nat} {x x':Value} {new:List Value} (hs:aD Γ (.slice base len cap) (.slice base' len cap')) (hx:aD Γ x x') (hf:lu h i.size x k new):
  ak P Γ W h n w (lT i z base len cap k new) (Builtin.append_ #[t,tx] ty #[.slice base' len cap',x']) aD:=by
 obtain⟨new',hnew,Ml,xe⟩:=hf.run (P:=P) hS hx;obtain⟨new2,hnew2,VO,_⟩:=hf.run (P:=P) hS.drew hx;unfold lT;cases hc0:(Nat.beq k 0&&Nat.ble len cap&&new.isEmpty) with
 |true=>
  simp only[Bool.and_eq_true] at hc0;obtain rfl:=beq_true hc0.1.1;have hle:=Nat.le_of_ble_eq_true hc0.1.2;have FW:new=[]:=by simpa using hc0.2
  subst FW;cases hnew;have hcap:len+0≤cap':=by
   cases hs with
   |nilslice=>omega
   |slice a a' _ _ _ ha hc=>
    unfold bL.cap at hc;split at hc
    ·exact hc.1
    ·omega
  refine ak.ok hS (b := .slice base' len cap') ?_ hs;rw[oH ty hd Fq hni hi xe Ml hcap];cases base' with
  |none=>rfl
  |some a=>simp[storeCells]
 |false=>
  simp only[cond_false];cases nj:Nat.ble aA cap with
  |true=>
   have gX:=Nat.le_of_ble_eq_true nj;simp only[cond_true];split
   ·rename_i a;cases hs with
    |slice _ a' _ _ _ ha hcap=>
     unfold bL.cap at hcap;rw[if_pos gX] at hcap;obtain⟨hlc,N,hN,FX⟩:=hcap;cases hc:(Nat.beq cap (aA+i.size)&&new.all bw) with
     |false=>exact ak.fail
     |true=>
      simp only[Bool.and_eq_true] at hc;have hcs:=beq_true hc.1;simp only[cond_true];refine ak.get fun B hB=>?_;split
      ·rename_i c;split
       ·rename_i old hold;refine ak.kill ?_;have hSk:=hS.kill a.block;obtain⟨s,hblk⟩:=ha.block (by unfold aA at gX;omega);obtain⟨b0,s0,VP,Ru,iI⟩:=hS.live _ _ hB;rw[hblk] at VP;obtain⟨rfl,rfl⟩:a'.block=b0∧s=s0:=by simpa using VP
        have iI:=iI rfl;obtain⟨cs,el,fz,zn,mT,VQ⟩:=Ru;obtain rfl:=mT rfl;have hfree:∀ j B b s',(h.set a.block none).get j=some B→Γ.blk j=some (b,s')→b≠a'.block:=by
         intro j B' b s' hj hb;rw[PT.bC] at hj;by_cases hja:j=a.block
         ·rw[if_pos hja] at hj;simp at hj
         ·rw[if_neg hja] at hj;exact Ne.symm (hS.ng _ _ _ _ _ _ _ _ (Ne.symm hja) hB hj hblk hb rfl)
        obtain⟨cs0,el0,fz0,hb0,hN0⟩:=hS.jo _ _ hN;rw[zn] at hb0;obtain⟨rfl,rfl,rfl⟩:cs=cs0∧el=el0∧(0,0)=fz0:=by simpa using hb0
        by_cases hroom:len+k≤cap'
        ·
         intro lim rd wr av s' hr hfr;unfold uD at hr;cases FU:(Nat.ble (len+k) 1048576&&Nat.ble i.bytes 65536&&Nat.beq z.cells.toList.length i.size&&Nat.beq old.length (len*i.size)&&Nat.beq new.length (k*i.size)) with
         |false=>rw[FU] at hr;simp[AP.run] at hr
         |true=>
          rw[FU] at hr;have jk:ak P Γ W (h.set a.block none) n w (.new (.cells (PT.ofList .leaf 0 (old++new)) false) fun id => .pure (.slice (some ⟨id,0,none⟩) (len+k) (aA+i.size)))
            (Builtin.append_ #[t,tx] ty #[.slice (some a') len cap',x']) aD:=by
           simp only[Bool.and_eq_true] at FU;have h4:=beq_true FU.1.2;have h5:=beq_true FU.2;have hnl:=hnew.length;refine ak.new fun hn=>?_;have hao:(a'.add (len*i.size)).block=a'.block∧(a'.add (len*i.size)).off=a'.off+len*i.size∧(a'.add (len*i.size)).spot=none:=by
            unfold Addr.add;split
            ·rename_i hk;exact⟨rfl,by omega,(ha.spot' (by unfold aA at gX;omega))⟩
            ·exact⟨rfl,rfl,rfl⟩
           have hfit:(a'.add (len*i.size)).off+0+new'.length≤cs.size:=by
            rw[hao.2.1,hN0];rw[hcs,Nat.add_sub_cancel_left] at FX;have:(len+k)*i.size≤cap'*i.size:=Nat.mul_le_mul_right _ hroom;rw[Nat.add_mul] at this;omega
           obtain⟨w₁,cs₁,hst,hb₁,hsz₁,hn1,ho1,hrel⟩:=oa (P:=P) new' 0 w (a'.add (len*i.size)) cs el hao.2.2 (hnew.bw hc.2) (by rw[hao.1];exact zn) hfit;rw[hao.1] at hb₁;have hSw:=hrel Γ W _ hSk (by rw[hao.1];exact iI) (by rw[hao.1];exact hfree);obtain⟨hrl,Ia⟩:=kM _ _ _ _ hold;obtain⟨aY,hstep,FH,ku⟩:=hSw.view hn (old++new) (b:=a'.block) (s:=a'.off) hb₁ iI hfree (fun j v hv=>by
            by_cases hj:j<old.length
            ·rw[List.getElem?_append_left hj] at hv;obtain⟨v',e',r⟩:=VQ _ _ (Ia j v hv);have acK:0<len:=by
              rcases Nat.eq_zero_or_pos len with CP |CP
              ·rw[CP,Nat.zero_mul] at h4;omega
              ·exact CP
             obtain⟨s1,VR,ho'⟩:=(ha.exact (.inl acK)).at_;rw[hblk] at VR;obtain rfl:s=s1:=by simpa using VR
             refine⟨v',?_,r⟩;rw[ho1 _ (by rw[hao.2.1];omega),←e']
             congr 1;omega
            ·rw[List.getElem?_append_right qJ] at hv;obtain⟨v',e',r⟩:=hnew.get hv;refine⟨v',?_,r⟩;have hjl:j-old.length<new'.length:=by
              rcases Nat.lt_or_ge (j-old.length) new'.length with hh |hh
              ·exact hh
              ·rw[List.getElem?_eq_none hh] at e';simp at e'
             have:=hn1 (j-old.length) hjl;rw[←e',←this,hao.2.1]
             congr 1;omega)
           refine⟨aY,w₁,pure (.slice (some a') (len+k) cap'),hstep,?_,ak.ok ku rfl (.slice _ _ _ _ _ (.inl ⟨rfl,(ha.spot' (by unfold aA at gX;omega)),a'.off,FH,by simp⟩) ?_)⟩
           ·rw[oH ty hd Fq hni hi xe Ml hroom];simp[hst]
           ·unfold bL.cap;rw[if_pos qJ];refine⟨hroom,N,hstep.le.jo _ _ hN,?_⟩;rw[Nat.add_sub_cancel_left];rw[hcs,Nat.add_sub_cancel_left] at FX;exact FX
          exact jk lim rd wr av s' hr hfr
        ·obtain⟨old',hold',Mm⟩:=qE (P:=P) hS.drew hB ha rfl hold;refine tR hSk hold' hnew2 (el:=e) fun h1 h2 h3=>?_;exact uL ty hd Fq hni hi hz xe VO Mm hroom h1 h2
       ·exact ak.fail
      ·exact ak.fail
   ·exact ak.fail
  |false=>
   have gX: ¬ aA≤cap:=fun hle=>by rw[Nat.ble_eq_true_of_le hle] at nj;exact Bool.noConfusion nj
   simp only[cond_false];have XX:cap'=cap:=by
    cases hs with
    |nilslice=>rfl
    |slice a a' _ _ _ ha hc=>unfold bL.cap at hc;rw[if_neg gX] at hc;exact hc
   cases FY:Nat.ble (len+k) cap with
   |true=>
    have hroom:=Nat.le_of_ble_eq_true FY;simp only[cond_true];split
    ·rename_i a;cases hs with
     |slice _ a' _ _ _ ha0 hcap=>
      rcases Nat.eq_zero_or_pos cap with hcz |hcz
      ·obtain rfl:k=0:=by omega
       obtain rfl:len=0:=by omega
       have:=hf.nil;subst this;simp[hcz] at hc0
      have ha:=ha0.exact (.inr ⟨gX,hcz⟩);refine ak.get fun B hB=>?_;split
      ·rename_i c;split
       ·rename_i c' VM;obtain⟨w',hr,ku⟩:=gF (P:=P) (i:=a.block) (a:=kH a (len*i.size)) (a':=a'.add (len*i.size)) rfl new new' c c' 0 h w (ha.add _) hS hB hnew (by simpa [kH] using VM);refine ak.set (w':=w') (e':=pure (.slice (some a') (len+k) cap')) ?_ (ak.ok ku rfl (.slice _ _ _ _ _ (.inl ha) ?_))
        ·rw[oH ty hd Fq hni hi xe Ml qJ];simp[hr]
        ·unfold bL.cap at hcap ⊢;rw[if_neg gX] at hcap ⊢;exact hcap
       ·exact ak.fail
      ·exact ak.fail
    ·exact ak.fail
   |false=>
    have hroom: ¬ len+k≤cap':=fun hle=>by rw[XX] at hle;rw[Nat.ble_eq_true_of_le hle] at FY;exact Bool.noConfusion FY
    simp only[cond_false];refine w_ fun k' old hfo=>?_;obtain⟨old',hold',Mm,hlo⟩:=hfo.run (P:=P) hS.drew hs;have hk':k'=len:=by
     have:=hlo w;have e2:(Builtin.lenOf (.slice base' len cap')).run P w = .ok len w:=rfl;rw[e2] at this
     simpa using this.symm
    subst hk';refine tR hS hold' hnew2 (el:=e) fun h1 h2 h3=>?_;exact uL ty hd Fq hni hi hz xe VO Mm hroom h1 h2
theorem Dh{ts:Array TypeId}{ty:TypeId}{args args':List Value}(ha:aM Γ args args'):iA P Γ (gP P ts.toList args) (Builtin.append_ ts ty ⟨args'⟩) aD:=by
 intro W h n w hS;unfold gP;split
 ·rename_i t tx s x hts;obtain⟨tl⟩:=ts;obtain rfl:tl=[t,tx]:=hts;cases ha with
  |cons _ s' _ _ hs ha=>
   cases ha with
   |cons _ x' _ _ hx ha=>
    cases ha;split
    ·rename_i e kx hd Fq;cases hs;split
     ·rename_i i z k m hi hz;cases hx;obtain⟨CQ,hzf⟩:=dS hz;cases hc:(Nat.blt 0 m&&Nat.blt 0 i.size) with
      |false=>exact ak.fail
      |true=>
       simp only[Bool.and_eq_true] at hc;simp only[cond_true];refine tR hS .nil ((hzf Γ).cells.rep m) (el:=e) fun h1 h2 h3=>?_;exact Dg ty hd Fq hi CQ (Nat.blt_eq.mp hc.1) (Nat.blt_eq.mp hc.2) h1 h2 h3
     ·exact ak.fail
    ·exact ak.fail
    ·rename_i e dx base len cap aCL hni hd Fq;split
     ·rename_i i z hi hz;obtain⟨CQ,_⟩:=dS hz;refine w_ fun k new hf=>?_;have acL:∀ k,dx ≠ .int k:=fun k e=>hni k e;cases hs with
      |nilslice=>exact qF hS ty hd Fq acL hi CQ (.nilslice _ _) hx hf
      |slice a a' _ _ _ oI hc=>exact qF hS ty hd Fq acL hi CQ (.slice _ _ _ _ _ oI hc) hx hf
     ·exact ak.fail
    ·exact ak.fail
 ·exact ak.fail
end
end Go.Am
