/-
  The abstract machine: append's simulation.
-/
import Derived.Test.YtbceiadaihphaaaGreatAmK
set_option linter.unusedSimpArgs false
set_option linter.unusedVariables false
namespace Go.Am
open Go.RowKit
section
variable {P:Program} {Γ:bu} {W w:World} {h:PT aj} {n:Nat}
theorem lG {t tx e:TypeId} {dx:TypeDesc} {i:TypeInfo} (ty:TypeId) (hd:P.underlying t=some (.slice e)) (xI:P.underlying tx=some dx) (hni:∀ k,dx ≠ .int k) (hi:P.info? e=some i)
  {base:Option Addr} {len cap' k:Nat} {x':Value} {l':List Value} (hlen:∀ w,(Builtin.lenOf x').run P w = .ok k w) (rH:(Builtin.firstCells i.size k x').run P w = .ok ⟨l'⟩ w) (hroom:len+k≤cap'):
  (Builtin.append_ #[t,tx] ty #[.slice base len cap',x']).run P w=
   match base with
   |some a=>((storeCells (a.add (len*i.size)) l').run P w).andThen fun _ w => .ok (.slice base (len+k) cap') w
   |none => .ok (.slice base (len+k) cap') w:=by
 unfold Builtin.append_
 simp only[List.getElem?_toArray,List.getElem?_cons_zero,List.getElem?_cons_succ,Sem.run_bind,aD hd,aD xI,Result.andThen_ok,bF hi,Sem.run_pure]
 simp only[Bool.false_eq_true,if_false,hlen,Result.andThen_ok,hroom,if_true,Sem.run_bind,Bool.not_false,rH]
 cases base with
 |none=>rfl
 |some a=>simp only[Sem.run_bind,Sem.run_pure]
theorem qe {t tx e:TypeId} {dx:TypeDesc} {i:TypeInfo} {z:Value} (ty:TypeId) (hd:P.underlying t=some (.slice e)) (xI:P.underlying tx=some dx) (hni:∀ k,dx ≠ .int k) (hi:P.info? e=some i)
  (hz:∀ w,(zeroValue e).run P w = .ok z w) {base:Option Addr} {len cap' k:Nat} {x':Value} {l' old':List Value} (hlen:∀ w,(Builtin.lenOf x').run P w = .ok k w)
  (rH:(Builtin.firstCells i.size k x').run P w.drew = .ok ⟨l'⟩ w.drew) (hold:(Builtin.firstCells i.size len (.slice base len cap')).run P w.drew = .ok ⟨old'⟩ w.drew)
  (hroom: ¬ len+k≤cap') (hsmall:len+k≤1048576) (hbytes:i.bytes≤65536):
  ∃ gj,len+k≤gj∧(Builtin.append_ #[t,tx] ty #[.slice base len cap',x']).run P w=
   .ok (.slice (some ⟨w.heap.size,0,none⟩) (len+k) gj) (w.drew.alloc (.cells ((⟨old'⟩:Array Value)++⟨l'⟩++Builtin.zeroCells z.cells (gj-(len+k))) e)):=by
 refine⟨Question.cut (.appendCap (len+k) cap' e) (w.tape w.drawn (.appendCap (len+k) cap' e)),by simp[Question.cut],?_⟩
 unfold Builtin.append_
 simp only[List.getElem?_toArray,List.getElem?_cons_zero,List.getElem?_cons_succ,Sem.run_bind,aD hd,aD xI,Result.andThen_ok,bF hi,Sem.run_pure]
 have C9: ¬ (((len+k:Nat):Int)>IntKind.i64.max∧(False∨i.bytes=0)):=by
  intro hh
  have:IntKind.i64.max=9223372036854775807:=by simp[IntKind.max,IntKind.signed,IntKind.bits]
  rw[this] at hh
  omega
 have hnext: ¬ (Builtin.nextslicecap (len+k) cap'*i.bytes>2^48):=by
  have h1:=nextslicecap_le (need:=len+k) (c:=cap') hsmall (by omega)
  have h2:Builtin.nextslicecap (len+k) cap'*i.bytes≤16777216*65536:=Nat.mul_le_mul h1 hbytes
  omega
 simp only[Bool.false_eq_true,if_false,hlen,Result.andThen_ok,hroom,Sem.run_bind,Bool.not_false,if_true,dj hi]
 rw[if_neg C9]
 simp only[Sem.run_bind,Sem.run_pure,Result.andThen_ok,dj hi]
 rw[if_neg hnext]
 have WA:({ w with drawn:=w.drawn+1 }:World)=w.drew:=rfl
 simp only[Sem.run_bind,Sem.run_pure,Result.andThen_ok,run_choose,Question.forced,Bool.false_eq_true,if_false,dj hi,run_askRoom,WA,hold,rH,hz,Go.newRow,run_newObj]
 rfl
theorem vH {t tx e:TypeId} {kx:IntKind} {i:TypeInfo} {z:Value} (ty:TypeId) (hd:P.underlying t=some (.slice e)) (xI:P.underlying tx=some (.int kx)) (hi:P.info? e=some i)
  (hz:∀ w,(zeroValue e).run P w = .ok z w) {k:IntKind} {n:Nat} (hn:0<n) (hs:0<i.size) (hsmall:0+n≤1048576) (hbytes:i.bytes≤65536) (hzs:z.cells.size=i.size):
  ∃ gj,0+n≤gj∧(Builtin.append_ #[t,tx] ty #[.slice none 0 0,.int k n]).run P w=
   .ok (.slice (some ⟨w.heap.size,0,none⟩) (0+n) gj) (w.drew.alloc (.cells ((⟨[]⟩:Array Value)++⟨rep z.cells.toList n⟩++Builtin.zeroCells z.cells (gj-(0+n))) e)):=by
 refine⟨Question.cut (.appendCap (0+n) 0 e) (w.tape w.drawn (.appendCap (0+n) 0 e)),by simp[Question.cut],?_⟩
 unfold Builtin.append_
 simp only[List.getElem?_toArray,List.getElem?_cons_zero,List.getElem?_cons_succ,Sem.run_bind,aD hd,aD xI,Result.andThen_ok,bF hi,Sem.run_pure]
 have hwrap:IntKind.i64.wrap (n:Int)=n:=by
  simp[IntKind.wrap,IntKind.bits,IntKind.signed]
  omega
 have KC:(asInt (.int k n)).run P w = .ok (n:Int) w:=rfl
 have hneg: ¬ ((n:Int)<0):=by omega
 have Pj: ¬ ((n:Int)*(i.bytes:Nat)>2^48):=by
  have h2:n*i.bytes≤1048576*65536:=Nat.mul_le_mul (by omega) hbytes
  have:(n:Int)*(i.bytes:Nat)=((n*i.bytes:Nat):Int):=by simp
  rw[this]
  omega
 have C9: ¬ (((0+n:Nat):Int)>IntKind.i64.max∧(True∨i.bytes=0)):=by
  intro hh
  have:IntKind.i64.max=9223372036854775807:=by simp[IntKind.max,IntKind.signed,IntKind.bits]
  rw[this] at hh
  omega
 have hnext: ¬ (Builtin.nextslicecap (0+n) 0*i.bytes>2^48):=by
  have h1:=nextslicecap_le (need:=0+n) (c:=0) hsmall (by omega)
  have h2:Builtin.nextslicecap (0+n) 0*i.bytes≤16777216*65536:=Nat.mul_le_mul h1 hbytes
  omega
 have hroom: ¬ 0+n≤0:=by omega
 have cq: ¬ n*i.size=0:=by
  have:=Nat.mul_pos hn hs
  omega
 simp only[KC,Result.andThen_ok,hwrap,if_true,hneg,if_false,dj hi,Sem.run_bind,Sem.run_pure]
 rw[if_neg Pj]
 simp only[Sem.run_bind,Sem.run_pure,Result.andThen_ok,Int.toNat_natCast,Bool.not_true,Bool.false_eq_true,if_false,hroom,dj hi]
 rw[if_neg C9]
 simp only[Sem.run_bind,Sem.run_pure,Result.andThen_ok,dj hi]
 rw[if_neg hnext]
 have WA:({ w with drawn:=w.drawn+1 }:World)=w.drew:=rfl
 have rH:∀ w',(Builtin.firstCells i.size 0 (.slice none 0 0)).run P w' = .ok #[] w':=fun w'=>rfl
 simp only[Sem.run_bind,Sem.run_pure,Result.andThen_ok,run_choose,Question.forced,Bool.false_eq_true,if_false,dj hi,run_askRoom,WA,rH,cq,hz,Go.newRow,run_newObj]
 have Pc:Builtin.zeroCells z.cells n=⟨rep z.cells.toList n⟩:=mL z.cells n (by omega)
 rw[Pc]
 rfl
theorem beq_true {a b:Nat} (h:Nat.beq a b=true):a=b:=Nat.eq_of_beq_eq_true h
theorem pF (hS:bq Γ W h w) {i:TypeInfo} {z:Value} {len k:Nat} {old new old' new':List Value} (ho:aH Γ old old') (hn':aH Γ new new') {e:Sem Value} {el:TypeId}
  (he:len+k≤1048576→i.bytes≤65536→z.cells.size=i.size→∃ gj,len+k≤gj∧e.run P w = .ok (.slice (some ⟨w.heap.size,0,none⟩) (len+k) gj)
     (w.drew.alloc (.cells ((⟨old'⟩:Array Value)++⟨new'⟩++Builtin.zeroCells z.cells (gj-(len+k))) el))):
  ak P Γ W h n w (tC i z len k old new) e aF:=by
 unfold tC
 cases hc:(Nat.ble (len+k) 1048576&&Nat.ble i.bytes 65536&&Nat.beq z.cells.toList.length i.size&&Nat.beq old.length (len*i.size)&&Nat.beq new.length (k*i.size)) with
 |false=>exact ak.fail
 |true=>
  simp only[Bool.and_eq_true] at hc
  have h1:=Nat.le_of_ble_eq_true hc.1.1.1.1
  have h2:=Nat.le_of_ble_eq_true hc.1.1.1.2
  have h3:=beq_true hc.1.1.2
  have h4:=beq_true hc.1.2
  have h5:=beq_true hc.2
  have hzs:z.cells.size=i.size:=by rw[←h3];simp
  obtain⟨gj,hle,hrun⟩:=he h1 h2 hzs
  simp only[cond_true]
  refine ak.new fun hn=>?_
  obtain⟨aS,hst,hb,hsz,kR⟩:=hS.drew.kj hn (old++new) ((⟨old'⟩:Array Value)++⟨new'⟩++Builtin.zeroCells z.cells (gj-(len+k))) el (fun i v hv=>by
   obtain⟨v',e',r⟩:=(ho.append hn').get hv
   refine⟨v',?_,r⟩
   have hlt:i<(old'++new').length:=by
    rcases Nat.lt_or_ge i (old'++new').length with hh |hh
    ·exact hh
    ·rw[List.getElem?_eq_none hh] at e';simp at e'
   rw[Array.getElem?_append_left (by simpa using hlt)]
   simpa using e')
  refine⟨aS,_,pure (.slice (some ⟨w.heap.size,0,none⟩) (len+k) gj),hst,hrun,ak.ok kR rfl (.slice _ _ _ _ _ (.inl ⟨rfl,rfl,0,by simpa using hb,by simp⟩) ?_)⟩
  unfold bu.cap
  rw[if_pos (by omega)]
  refine⟨hle,_,hsz,?_⟩
  have hl1:=ho.length
  have Nt:=hn'.length
  simp only[Array.size_append,Builtin.zeroCells,Array.size_map,Array.size_range,Nat.add_sub_cancel_left,Nat.zero_add,hzs]
  have e1:(⟨old'⟩:Array Value).size=len*i.size:=by show old'.length=_;omega
  have e2:(⟨new'⟩:Array Value).size=k*i.size:=by show new'.length=_;omega
  rw[e1,e2,←Nat.add_mul,←Nat.add_mul]
  exact Nat.mul_le_mul_right _ (by omega)
theorem kT:∀ (l':List Value) (k:Nat) (w:World) (a':Addr) (cs:Array Value) (el:TypeId),a'.spot=none→(∀ v∈l',v.oneCell'=true)→
  w.heap[a'.block]? = some (.cells cs el (0,0))→a'.off+k+l'.length≤cs.size→
  ∃ w₁ cs₁,(storeCells a' l' k).run P w = .ok () w₁∧w₁.heap[a'.block]? = some (.cells cs₁ el (0,0))∧cs₁.size=cs.size∧
   (∀ j,j<l'.length→cs₁[a'.off+k+j]? = l'[j]?)∧(∀ p,p<a'.off+k→cs₁[p]? = cs[p]?)∧
   (∀ (Γ:bu) (W:World) (h:PT aj),bq Γ W h w→W.heap.size≤a'.block→(∀ j B b s,h.get j=some B→Γ.bW j=some (b,s)→b≠a'.block)→bq Γ W h w₁)
 | [],k,w,a',cs,el,hs,ho,hb,hsz=>⟨w,cs,rfl,hb,rfl,fun j hj=>absurd hj (by simp),fun p _=>rfl,fun _ _ _ hS _ _=>hS⟩
 |v::l',k,w,a',cs,el,hs,ho,hb,hsz=>by
  simp only[List.length_cons] at hsz
  have rm:(a'.add k).block=a'.block∧(a'.add k).off=a'.off+k∧(a'.add k).spot=none:=by
   unfold Addr.add;split
   ·rename_i hk;exact⟨rfl,by omega,hs⟩
   ·exact⟨rfl,rfl,rfl⟩
  have Nu:w.heap[(a'.add k).block]? = some (.cells cs el (0,0)):=by rw[rm.1];exact hb
  have dr:=heap_setCell_same (v:=v) rm.2.2 Nu
  rw[rm.1,rm.2.1] at dr
  obtain⟨w₁,cs₁,hrun,hb₁,hsz₁,hnew,hold,gX⟩:=kT l' (k+1) (w.setCell (a'.add k) v) a' (cs.setIfInBounds (a'.off+k) v) el hs (fun u hu=>ho u (by simp[hu])) dr (by simp;omega)
  refine⟨w₁,cs₁,?_,hb₁,by simpa using hsz₁,?_,?_,?_⟩
  ·have hc:w.cell? (a'.add k)=some cs[a'.off+k]:=by
    rw[ni rm.2.2 Nu,rm.2.1]
    simp[show a'.off+k<cs.size by omega]
   have hf:w.frozen? (a'.add k)=false:=by simp[World.frozen?,Nu]
   simp only[storeCells,Sem.run_bind,run_store P w _ _ .plain (ho v (by simp)),hc,hf]
   simpa using hrun
  ·intro j hj
   cases j with
   |zero=>
    rw[hold _ (by omega)]
    simp[show a'.off+k<cs.size by omega]
   |succ j=>
    have:=hnew j (by simpa using hj)
    rw[show a'.off+k+(j+1)=a'.off+(k+1)+j by omega,this]
    simp
  ·intro p hp
   rw[hold p (by omega),Array.getElem?_setIfInBounds_ne (by omega)]
  ·intro Γ W h hS fR hfree
   refine gX Γ W h (hS.vw rm.2.2 v (by rw[rm.1];exact fR) (fun j B b s hj hb=>by rw[rm.1];exact hfree j B b s hj hb)) fR hfree
theorem aH.bn {l l':List Value} (hl:aH Γ l l') (ha:l.all Am.bn=true):∀ v∈l',v.oneCell'=true:=by
 induction l generalizing l' with
 |nil=>cases hl;simp
 |cons v l ih=>
  cases hl with
  |cons _ v' _ l' hv ht=>
   simp only[List.all_cons,Bool.and_eq_true] at ha
   intro u hu
   rcases List.mem_cons.1 hu with rfl |hu
   ·exact hv.oneCell' ha.1
   ·exact ih ht ha.2 u hu
theorem nk (hS:bq Γ W h w) {t tx e:TypeId} {dx:TypeDesc} {i:TypeInfo} {z:Value} (ty:TypeId) (hd:P.underlying t=some (.slice e)) (xI:P.underlying tx=some dx) (hni:∀ k,dx ≠ .int k) (hi:P.info? e=some i)
  (hz:∀ w,(zeroValue e).run P w = .ok z w) {base base':Option Addr} {len cap cap' k:Nat} {x x':Value} {new:List Value} (hs:aF Γ (.slice base len cap) (.slice base' len cap')) (hx:aF Γ x x') (hf:jo h i.size x k new):
  ak P Γ W h n w (o_ i z base len cap k new) (Builtin.append_ #[t,tx] ty #[.slice base' len cap',x']) aF:=by
 obtain⟨new',hnew,Db,rI⟩:=hf.run (P:=P) hS hx
 obtain⟨new2,hnew2,Jp,_⟩:=hf.run (P:=P) hS.drew hx
 unfold o_
 cases hc0:(Nat.beq k 0&&Nat.ble len cap&&new.isEmpty) with
 |true=>
  simp only[Bool.and_eq_true] at hc0
  obtain rfl:=beq_true hc0.1.1
  have hle:=Nat.le_of_ble_eq_true hc0.1.2
  have KD:new=[]:=by simpa using hc0.2
  subst KD
  cases hnew
  have hcap:len+0≤cap':=by
   cases hs with
   |nilslice=>omega
   |slice a a' _ _ _ ha hc=>
    unfold bu.cap at hc
    split at hc
    ·exact hc.1
    ·omega
  refine ak.ok hS (b := .slice base' len cap') ?_ hs
  rw[lG ty hd xI hni hi rI Db hcap]
  cases base' with
  |none=>rfl
  |some a=>simp[storeCells]
 |false=>
  simp only[cond_false]
  cases ko:Nat.ble aB cap with
  |true=>
   have fk:=Nat.le_of_ble_eq_true ko
   simp only[cond_true]
   split
   ·rename_i a
    cases hs with
    |slice _ a' _ _ _ ha hcap=>
     unfold bu.cap at hcap
     rw[if_pos fk] at hcap
     obtain⟨hlc,N,hN,ya⟩:=hcap
     cases hc:(Nat.beq cap (aB+i.size)&&new.all bn) with
     |false=>exact ak.fail
     |true=>
      simp only[Bool.and_eq_true] at hc
      have hcs:=beq_true hc.1
      simp only[cond_true]
      refine ak.get fun B hB=>?_
      split
      ·rename_i c
       split
       ·rename_i old hold
        refine ak.kill ?_
        have ZU:=hS.kill a.block
        obtain⟨s,nF⟩:=ha.block (by unfold aB at fk;omega)
        obtain⟨b0,s0,Jq,Jm,fR⟩:=hS.live _ _ hB
        rw[nF] at Jq
        obtain⟨rfl,rfl⟩:a'.block=b0∧s=s0:=by simpa using Jq
        have fR:=fR rfl
        obtain⟨cs,el,fz,FY,CF,hb3⟩:=Jm
        obtain rfl:=CF rfl
        have hfree:∀ j B b s',(h.set a.block none).get j=some B→Γ.bW j=some (b,s')→b≠a'.block:=by
         intro j B' b s' hj hb
         rw[PT.bK] at hj
         by_cases WB:j=a.block
         ·rw[if_pos WB] at hj;simp at hj
         ·rw[if_neg WB] at hj
          exact Ne.symm (hS.lD _ _ _ _ _ _ _ _ (Ne.symm WB) hB hj nF hb rfl)
        obtain⟨cs0,Pk,Pm,hb0,Nv⟩:=hS.iB _ _ hN
        rw[FY] at hb0
        obtain⟨rfl,rfl,rfl⟩:cs=cs0∧el=Pk∧(0,0)=Pm:=by simpa using hb0
        by_cases hroom:len+k≤cap'
        ·
         intro lim rd wr av s' hr hfr
         unfold tC at hr
         cases xH:(Nat.ble (len+k) 1048576&&Nat.ble i.bytes 65536&&Nat.beq z.cells.toList.length i.size&&Nat.beq old.length (len*i.size)&&Nat.beq new.length (k*i.size)) with
         |false=>rw[xH] at hr;simp[AP.run] at hr
         |true=>
          rw[xH] at hr
          have Nr:ak P Γ W (h.set a.block none) n w (.new (.cells (PT.ofList .leaf 0 (old++new)) false) fun id => .pure (.slice (some ⟨id,0,none⟩) (len+k) (aB+i.size)))
            (Builtin.append_ #[t,tx] ty #[.slice (some a') len cap',x']) aF:=by
           simp only[Bool.and_eq_true] at xH
           have h4:=beq_true xH.1.2
           have h5:=beq_true xH.2
           have ef:=hnew.length
           refine ak.new fun hn=>?_
           have hao:(a'.add (len*i.size)).block=a'.block∧(a'.add (len*i.size)).off=a'.off+len*i.size∧(a'.add (len*i.size)).spot=none:=by
            unfold Addr.add;split
            ·rename_i hk;exact⟨rfl,by omega,(ha.spot' (by unfold aB at fk;omega))⟩
            ·exact⟨rfl,rfl,rfl⟩
           have hfit:(a'.add (len*i.size)).off+0+new'.length≤cs.size:=by
            rw[hao.2.1,Nv]
            rw[hcs,Nat.add_sub_cancel_left] at ya
            have:(len+k)*i.size≤cap'*i.size:=Nat.mul_le_mul_right _ hroom
            rw[Nat.add_mul] at this
            omega
           obtain⟨w₁,cs₁,hst,hb₁,hsz₁,hn1,ho1,gX⟩:=kT (P:=P) new' 0 w (a'.add (len*i.size)) cs el hao.2.2 (hnew.bn hc.2) (by rw[hao.1];exact FY) hfit
           rw[hao.1] at hb₁
           have hSw:=gX Γ W _ ZU (by rw[hao.1];exact fR) (by rw[hao.1];exact hfree)
           obtain⟨hrl,hrg⟩:=iV _ _ _ _ hold
           obtain⟨aS,hstep,Gt,kR⟩:=hSw.view hn (old++new) (b:=a'.block) (s:=a'.off) hb₁ fR hfree (fun j v hv=>by
            by_cases hj:j<old.length
            ·rw[List.getElem?_append_left hj] at hv
             obtain⟨v',e',r⟩:=hb3 _ _ (hrg j v hv)
             have Pn:0<len:=by
              rcases Nat.eq_zero_or_pos len with zR |zR
              ·rw[zR,Nat.zero_mul] at h4;omega
              ·exact zR
             obtain⟨s1,Jr,ho'⟩:=(ha.exact (.inl Pn)).at_
             rw[nF] at Jr
             obtain rfl:s=s1:=by simpa using Jr
             refine⟨v',?_,r⟩
             rw[ho1 _ (by rw[hao.2.1];omega),←e']
             congr 1;omega
            ·rw[List.getElem?_append_right (by omega)] at hv
             obtain⟨v',e',r⟩:=hnew.get hv
             refine⟨v',?_,r⟩
             have hjl:j-old.length<new'.length:=by
              rcases Nat.lt_or_ge (j-old.length) new'.length with hh |hh
              ·exact hh
              ·rw[List.getElem?_eq_none hh] at e';simp at e'
             have:=hn1 (j-old.length) hjl
             rw[←e',←this,hao.2.1]
             congr 1;omega)
           refine⟨aS,w₁,pure (.slice (some a') (len+k) cap'),hstep,?_,ak.ok kR rfl (.slice _ _ _ _ _ (.inl ⟨rfl,(ha.spot' (by unfold aB at fk;omega)),a'.off,Gt,by simp⟩) ?_)⟩
           ·rw[lG ty hd xI hni hi rI Db hroom]
            simp[hst]
           ·unfold bu.cap
            rw[if_pos (by omega)]
            refine⟨hroom,N,hstep.le.iB _ _ hN,?_⟩
            rw[Nat.add_sub_cancel_left]
            rw[hcs,Nat.add_sub_cancel_left] at ya
            exact ya
          exact Nr lim rd wr av s' hr hfr
        ·obtain⟨old',hold',Dc⟩:=nj (P:=P) hS.drew hB ha rfl hold
         refine pF ZU hold' hnew2 (el:=e) fun h1 h2 h3=>?_
         exact qe ty hd xI hni hi hz rI Jp Dc hroom h1 h2
       ·exact ak.fail
      ·exact ak.fail
   ·exact ak.fail
  |false=>
   have fk: ¬ aB≤cap:=fun hle=>by rw[Nat.ble_eq_true_of_le hle] at ko;exact Bool.noConfusion ko
   simp only[cond_false]
   have KE:cap'=cap:=by
    cases hs with
    |nilslice=>rfl
    |slice a a' _ _ _ ha hc=>unfold bu.cap at hc;rw[if_neg fk] at hc;exact hc
   cases yc:Nat.ble (len+k) cap with
   |true=>
    have hroom:=Nat.le_of_ble_eq_true yc
    simp only[cond_true]
    split
    ·rename_i a
     cases hs with
     |slice _ a' _ _ _ ha0 hcap=>
      rcases Nat.eq_zero_or_pos cap with hcz |hcz
      ·obtain rfl:k=0:=by omega
       obtain rfl:len=0:=by omega
       have:=hf.nil
       subst this
       simp[hcz] at hc0
      have ha:=ha0.exact (.inr ⟨fk,hcz⟩)
      refine ak.get fun B hB=>?_
      split
      ·rename_i c
       split
       ·rename_i c' Jo
        obtain⟨w',hr,kR⟩:=eT (P:=P) (i:=a.block) (a:=jf a (len*i.size)) (a':=a'.add (len*i.size)) rfl new new' c c' 0 h w (ha.add _) hS hB hnew (by simpa [jf] using Jo)
        refine ak.set (w':=w') (e':=pure (.slice (some a') (len+k) cap')) ?_ (ak.ok kR rfl (.slice _ _ _ _ _ (.inl ha) ?_))
        ·rw[lG ty hd xI hni hi rI Db (by omega)]
         simp[hr]
        ·unfold bu.cap at hcap ⊢;rw[if_neg fk] at hcap ⊢;exact hcap
       ·exact ak.fail
      ·exact ak.fail
    ·exact ak.fail
   |false=>
    have hroom: ¬ len+k≤cap':=fun hle=>by rw[KE] at hle;rw[Nat.ble_eq_true_of_le hle] at yc;exact Bool.noConfusion yc
    simp only[cond_false]
    refine rG fun k' old hfo=>?_
    obtain⟨old',hold',Dc,hlo⟩:=hfo.run (P:=P) hS.drew hs
    have hk':k'=len:=by
     have:=hlo w
     have e2:(Builtin.lenOf (.slice base' len cap')).run P w = .ok len w:=rfl
     rw[e2] at this
     simpa using this.symm
    subst hk'
    refine pF hS hold' hnew2 (el:=e) fun h1 h2 h3=>?_
    exact qe ty hd xI hni hi hz rI Jp Dc hroom h1 h2
theorem vI {ts:Array TypeId} {ty:TypeId} {args args':List Value} (ha:aH Γ args args'):fK P Γ (mF P ts.toList args) (Builtin.append_ ts ty ⟨args'⟩) aF:=by
 intro W h n w hS
 unfold mF
 split
 ·rename_i t tx s x hts
  obtain⟨tl⟩:=ts
  obtain rfl:tl=[t,tx]:=hts
  cases ha with
  |cons _ s' _ _ hs ha=>
   cases ha with
   |cons _ x' _ _ hx ha=>
    cases ha
    split
    ·rename_i e kx hd xI
     cases hs
     split
     ·rename_i i z k m hi hz
      cases hx
      obtain⟨vn,hzf⟩:=cT hz
      cases hc:(Nat.blt 0 m&&Nat.blt 0 i.size) with
      |false=>exact ak.fail
      |true=>
       simp only[Bool.and_eq_true] at hc
       simp only[cond_true]
       refine pF hS .nil ((hzf Γ).cells.rep m) (el:=e) fun h1 h2 h3=>?_
       exact vH ty hd xI hi vn (Nat.blt_eq.mp hc.1) (Nat.blt_eq.mp hc.2) h1 h2 h3
     ·exact ak.fail
    ·exact ak.fail
    ·rename_i e dx base len cap af' hni hd xI
     split
     ·rename_i i z hi hz
      obtain⟨vn,_⟩:=cT hz
      refine rG fun k new hf=>?_
      have Po:∀ k,dx ≠ .int k:=fun k e=>hni k e
      cases hs with
      |nilslice=>exact nk hS ty hd xI Po hi vn (.nilslice _ _) hx hf
      |slice a a' _ _ _ lH hc=>exact nk hS ty hd xI Po hi vn (.slice _ _ _ _ _ lH hc) hx hf
     ·exact ak.fail
    ·exact ak.fail
 ·exact ak.fail
end
end Go.Am
