/-
A part.
-/
import Derived.Test.YtofmbmclopgldaaGreatSV4
set_option linter.all false
set_option maxRecDepth 100000
set_option maxHeartbeats 32000000
namespace Go.Proofs.YtofmbmclopgldaaGreat
open Go.Am Go.Proofs.Tryz
theorem ahi{z:Zx}{c:Code}{K:List KF}{m:Tm}{h:PT aj}{n:Nat}(Q:Tm→Prop)(hp:Q m)(H:∀ m',Q m'→iZ z c K m' h n):iZ z c K m h n:=H m hp
theorem ae8{z:Zx}{K:List KF}{m:Tm}{h:PT aj}{n:Nat}{g:Operand}{ps:Array Tmp}{ac bd:Code}{f:FuncId}{args:List Value}{fn:Fn}{first captured:Array Value}{R:PT aj→Nat→Prop}(hn:m.n=z.N)(hro:z.ro=none)(hg:bz g=true)(he:m.eval g = .func fn first captured)
  (hc:j7 z.P fn captured.toList (first.toList++[.func (.yield (n+1)) ⟨[]⟩ ⟨[]⟩]) = .pure (.enter f args)) (hO:z.O f args=none)
  (hB:cE z.P z.O f args ((h.set n (some .deferred)).set (n+1) (some (.loop .ready none m ps.toList ac bd))) (n+2) fun _ h' n'=>R h' n'∧h'.get (n+1)=some (.loop .ready none m ps.toList ac bd))
  (hk:∀ h' n',R h' n'→Go.Am.Rs z K .normal (KL m (n::m.fF)) (h'.set (n+1) (some (.loop .exhausted none m ps.toList ac bd))) n'):iZ z (.rangeFunc g ps ac bd) K m h n:=
 ack hn hro hg he hc hO hB fun v h' n' r=>⟨r.2,hk h' n' r.1⟩
theorem N22{P:Program}{O:Over}{h:PT aj}{n:Nat}{l N:Nat}{m0:Tm}{ac bd:Code}{R:Bool→PT aj→Nat→Prop}{tm:Tm}{ps:List Tmp}
  (H:∀ z0:Zx,z0.P=P→z0.O=O→z0.ro=some l→z0.N=N→z0.Q=(fun e m1 h1 n1=>e = .normal∧h1.get l=some (.loop .ready none tm ps ac bd)∧
   ∀ z1:Zx,z1.P=P→z1.O=O→z1.ro=some l→z1.N=N→z1.Q=(fun e2 m2 h2 n2=>h2.get l=some (.loop .busy none tm ps ac bd)∧R (exitCode e2).isNone (h2.set l (some (.loop (cond (exitCode e2).isNone .ready .done) (exitCode e2) tm ps ac bd))) n2)→
    iZ z1 bd [] m1 (h1.set l (some (.loop .busy none tm ps ac bd))) n1)→iZ z0 ac [] m0 h n):GZ P O l m0 ac bd h n R:=aco H
@[go_sem] theorem ae9:exitCode .normal=none:=rfl
structure N36(h:PT aj)(tb mb wb lb:Nat)(lg:Value)(W:List Int)(l:dg):Prop where
 ft:h.get tb=row [pt mb,pt lb]
 fm:h.get mb=row [.slice (some ⟨wb,0,none⟩) W.length W.length,lg]
 fw:h.get wb=row (W.map (.int .u64))
 fl:(zK (pt lb)).look h=some l
 fu:∀ x∈W,0≤x∧x<18446744073709551616
 fH:l.H.length≤2000
 fwl:W.length≤65536
theorem N36.keep{h h':PT aj}{tb mb wb lb:Nat}{lg:Value}{W:List Int}{l:dg}(I:N36 h tb mb wb lb lg W l)(k:Kept h h'):N36 h' tb mb wb lb lg W l:=
 ⟨k _ _ I.ft,k _ _ I.fm,k _ _ I.fw,gT k I.fl,I.fu,I.fH,I.fwl⟩
section
variable {h:PT aj} {n tb mb wb lb:Nat} {lg:Value} {W:List Int} {l:dg}
theorem iH(I:N36 h tb mb wb lb lg W l)(r lv:Int):
  cE prog OB 130 [pt tb,I6 r,I6 lv] h n fun v h' n'=>v=iU [I6 (Ji l W r lv),I6 (sS l r lv)]∧h'=h∧n'=n:=by
 obtain⟨ht,hm,hw,hl,hu,hH,rQ⟩:=I;have hrl:=fun h' hk z f d ops r K m n=>@cw _ _ _ _ h' hl z f d ops r K m n hk;obtain⟨u0,u1⟩:=tq hu (rE l r lv);refine ay (N:=40) func130 rfl rfl fun z hP hO hro hN hQ=>?_;unfold Ji at hQ;by_cases he:sS l r lv=0
 ·rw[if_pos he,he] at hQ;by_cases hc:0≤rE l r lv∧rE l r lv<W.length
  ·obtain⟨i,hi⟩:∃ i:Nat,rE l r lv=i:=⟨(rE l r lv).toNat,by omega⟩;have hil:i<W.length:=by omega
   have hg:=dP hil;rw[hi,iJ hil] at u0 u1 hQ;generalize W[i]=x at*;have c3:(0:Int)≤(i:Int):=by omega
   have c4:(i:Int)<(W.length:Int):=by omega
   clear hc;have hi2:(rE l r lv).toNat=i:=by omega
   by_cases hx:x≤(l.H.length:Int)
   ·rw[if_pos hx] at hQ
    repeat' first|simp(disch:=try exact jh) only[go_sem, *,dR,AH,j5,hi] | (apply xs<;>intro _)<;>try omega|refine fun (_ _:List Nat)=>?_ | (first|refine bD func104 rfl ?_ ?_ ?_ ?_ |refine bD func114 rfl ?_ ?_ ?_ ?_ |refine bD func69 rfl ?_ ?_ ?_ ?_ |refine bD func178 rfl ?_ ?_ ?_ ?_ |fail)<;>intros
   ·rw[if_neg hx] at hQ
    repeat' first|simp(disch:=try exact jh) only[go_sem, *,dR,AH,j5,hi] | (apply xs<;>intro _)<;>try omega|refine fun (_ _:List Nat)=>?_ | (first|refine bD func104 rfl ?_ ?_ ?_ ?_ |refine bD func114 rfl ?_ ?_ ?_ ?_ |refine bD func69 rfl ?_ ?_ ?_ ?_ |refine bD func178 rfl ?_ ?_ ?_ ?_ |fail)<;>intros
  ·rw[aeT qJ,if_pos qJ] at hQ;clear u0 u1
   rcases(show rE l r lv<0∨(0≤rE l r lv∧(W.length:Int)≤rE l r lv) by omega) with c | ⟨c,c2⟩
   ·clear hc
    repeat' first|simp(disch:=try exact jh) only[go_sem, *,dR,AH,j5] | (apply xs<;>intro _)<;>try omega|refine fun (_ _:List Nat)=>?_ | (first|refine bD func104 rfl ?_ ?_ ?_ ?_ |refine bD func114 rfl ?_ ?_ ?_ ?_ |refine bD func178 rfl ?_ ?_ ?_ ?_ |fail)<;>intros
   ·clear hc
    repeat' first|simp(disch:=try exact jh) only[go_sem, *,dR,AH,j5] | (apply xs<;>intro _)<;>try omega|refine fun (_ _:List Nat)=>?_ | (first|refine bD func104 rfl ?_ ?_ ?_ ?_ |refine bD func114 rfl ?_ ?_ ?_ ?_ |refine bD func178 rfl ?_ ?_ ?_ ?_ |fail)<;>intros
 ·rw[if_neg he] at hQ;clear u0 u1
  repeat' first|simp(disch:=try exact jh) only[go_sem, *,dR,AH,j5] | (apply xs<;>intro _)<;>try omega|refine fun (_ _:List Nat)=>?_
theorem ahn{p1 p2 p3 lp N:Nat}{v lv:Int}(tm:Tm)(p:Nat)(hp:p<tm.n)(ac bd:Code)(I:List Int→PT aj→Nat→Prop){h0:PT aj}(hW:bQ h N)(RT:Kept h0 h)
  (h1:h0.get p1=row [pt tb]) (h2:h0.get p2=row [I6 v]) (h3:h0.get p3=row [I6 lv]) (T:N36 h0 tb mb wb lb lg W l) (hv:0≤v∧v≤1000)
  (hlp:h.get lp=some (.loop .ready none tm [p] ac bd)) (hI0:∀ x:aj,I [] (h.set N (some x)) (N+1)) (hIk:∀ ws h' n',I ws h' n'→Kept h0 h') (j8:∀ ws h' n' (x:aj),I ws h' n'→I ws (h'.set N (some x)) n')
  (hstep:∀ ws (r:Int) h' n',bQ h' n'→N+1≤n'→I ws h' n'→ws.length≤l.H.length→(0<r∧r≤l.H.length)→h'.get lp=some (.loop .ready none tm [p] ac bd)→GZ prog OB lp (KL (up tm p (.int .i64 r)) []) ac bd h' n' (fun b h2 n2=>b=true∧I (ws++[r]) h2 n2∧h2.get lp=some (.loop .ready none tm [p] ac bd)∧h2.get N=h'.get N∧bQ h2 n2∧n'≤n2)):
  cE prog OB 129 [.func (.yield lp) ⟨[]⟩ ⟨[]⟩,pt p1,pt p2,pt p3] h N fun _ h' n'=>I (chain l W lv (l.H.length+1) (List.replicate (l.H.length+1) false) (Ji l W (-1-v) lv)) h' n'∧h'.get lp=some (.loop .ready none tm [p] ac bd)∧bQ h' n'∧N+1≤n':=by
 obtain⟨hv0,hv1⟩:=hv;have hlN:=hW.lt hlp;have hH:=T.fH;have g1:=RT _ _ h1;have g2:=RT _ _ h2;have g3:=RT _ _ h3;have T0:=T.keep RT;have gt:=T0.ft;have a1:=hW.lt g1;have a2:=hW.lt g2;have a3:=hW.lt g3;have a4:=hW.lt gt;obtain⟨C,hC⟩:∃ C,chain l W lv (l.H.length+1) (List.replicate (l.H.length+1) false) (Ji l W (-1-v) lv)=C:=⟨_,rfl⟩;have hbz:Value.bool false::rep [Value.bool false] l.H.length=(List.replicate (l.H.length+1) false).map Value.bool:=by rw[iE,List.replicate_succ,List.map_cons,List.map_replicate]
 have Lb:(l.H.length+1).ble 1048576=true:=Nat.ble_eq_true_of_le qJ;have har:=fun r=>@Lr l W r lv T.fu;have hl:=T.fl;have hrl:=fun h' hk z f d ops r K m n=>@cw _ _ _ _ h' hl z f d ops r K m n hk;rw[hC];refine ay (N:=62) func129 rfl rfl fun z hP hO hro hN hQ=>?_;have arX:((l.H.length:Int)+1).toNat=l.H.length+1:=by omega
 repeat' first|simp(disch:=try exact jh) only[go_sem, *,dR] | (apply xs<;>intro _)<;>try omega
 have i0:=hI0 (.cells (PT.ofList .leaf 0 ((List.replicate (l.H.length+1) false).map Value.bool)) false);generalize Hy:h.set N (some (.cells (PT.ofList .leaf 0 ((List.replicate (l.H.length+1) false).map Value.bool)) false))=h1' at*;have r1:=xK Hy;have kk1:Kept h h1':=by rw[←Hy];exact hW.kept (Nat.le_refl _)
 have w1:bQ h1' (N+1):=by rw[←Hy];exact hW.set qJ qJ
 have aBw:=kk1 _ _ hlp;have k01:=RT.trans kk1;clear Hy kk1 hbz arX Lb;have af:=iH (n:=N+1) (T.keep k01) (-1-v) lv;refine zc (af) ?_;rintro w h2' n2 ⟨rfl,hh,hn⟩;subst hh hn;clear g1 g2 g3 gt hlp hI0 hW RT af T0;obtain⟨ra0,ra1⟩:=har (-1-v);have De:(List.replicate (l.H.length+1) false).length=l.H.length+1:=List.length_replicate;have as8:(List.replicate (l.H.length+1) false).count false=l.H.length+1:=by simp
 generalize List.replicate (l.H.length+1) false=S0' at*;generalize Ji l W (-1-v) lv=r0 at*
 repeat' first|simp(disch:=try exact jh) only[go_sem, *] | (apply xs<;>intro _)<;>try omega
 refine a_ (fun t m h' n'=>∃ (r:Int) (S:List Bool) (ws:List Int),0≤r∧r≤l.H.length∧S.length=l.H.length+1∧S.count false=t∧ws.length+t=l.H.length+1∧ws++chain l W lv t S r=C∧m.n=62∧m.fF=[]∧m.get 0 = .func (.yield lp) ⟨[]⟩ ⟨[]⟩∧m.get 1=pt p1∧m.get 2=pt p2∧m.get 3=pt p3∧
  m.get 5 = .slice (some ⟨N,0,none⟩) (l.H.length+1) (l.H.length+1)∧m.get 6 = .int .i64 r∧h'.get N=some (.cells (PT.ofList .leaf 0 (S.map Value.bool)) false)∧h'.get lp=some (.loop .ready none tm [p] ac bd)∧I ws h' n'∧bQ h' n'∧N+1≤n') (l.H.length+1) ?_ ?_
 ·refine⟨r0,S0',[],ra0,ra1,De,as8,Nat.zero_add _,hC,?_⟩;clear hrl har;simp(disch:=try exact jh) only[go_sem, *]
  try exact Nat.le_refl _
 ·clear hC i0 r1 w1 aBw k01 De as8 ra0 ra1;rintro t m h' n' ih ⟨r,S,ws,jk,hr1,Ej,hSc,hwt,hch,m0,m1,m2,m3,m4,m5,m6,m7,q1,q2,q3,q4,q5⟩;obtain⟨rn,rfl⟩:∃ rn:Nat,r=rn:=⟨r.toNat,by omega⟩;have hrn:rn<S.length:=by omega
  have hgD:S.getD (rn:Int).toNat true=S[rn]:=by rw[Int.toNat_natCast];simp[List.getD,hrn]
  have hSm:(S.map Value.bool)[rn]? = some (.bool S[rn]):=by rw[List.getElem?_map,List.getElem?_eq_getElem hrn];rfl
  have aGq:(S.map Value.bool).length=l.H.length+1:=by rw[List.length_map];exact Ej
  have k0':=hIk _ _ _ q3;have g1:=k0' _ _ h1;have g2:=k0' _ _ h2;have g3:=k0' _ _ h3;have gt:=(T.keep k0').ft;by_cases c1:0<(rn:Int)
  ·have c1':rn<l.H.length+1:=by omega
   cases hb:S[rn] with
   |true=>
    have oK:chain l W lv t S rn=[]:=by
     cases t with
     |zero=>rfl
     |succ t=>rw[chain,if_neg];rw[hgD,hb];simp
    rw[oK,List.append_nil] at hch;subst hch;rw[hb] at hSm;clear ih hstep j8 hgD T
    repeat' first|simp(disch:=try exact jh) only[go_sem, *] | (apply xs<;>intro _)<;>try omega
    try exact⟨_,rfl⟩
   |false=>
    rw[hb] at hSm hgD;have hco:∃ t',t=t'+1∧(S.set rn true).count false=t':=by
     have:=count_set (S:=S) (i:=rn) (by rw[List.getElem?_eq_getElem hrn,hb]);exact⟨(S.set rn true).count false,by omega,rfl⟩
    obtain⟨t',rfl,hco⟩:=hco;by_cases c2:lv<qx l.H rn
    ·rw[chain,if_pos ⟨c1,hgD,c2⟩,Int.toNat_natCast] at hch;have c2': ¬ qx l.H rn≤lv:=by omega
     have hst:=hstep ws rn h' n' q4 q5 q3 qJ ⟨c1,hr1⟩ q2;clear hstep hgD c2
     repeat' first|simp(disch:=try exact jh) only[go_sem, *,cu,cT,aas] | (apply xs<;>intro _)<;>try omega
     refine acn ?_ (by rw[hP,hO];exact hst) ?_
     ·simp(disch:=try exact jh) only[go_sem, *]
     rintro b h3' n3 ⟨rfl,j1,j2,j3,j4,j5⟩;rw[q1] at j3;have k3:=hIk _ _ _ j1;have aJC:(S.map Value.bool).set rn (.bool true)=(S.set rn true).map Value.bool:=by rw[List.map_set]
     have j6:=j8 _ _ _ (.cells (PT.ofList .leaf 0 ((S.set rn true).map Value.bool)) false) j1;have aJD:N+1≤n3:=by omega
     clear q1 q2 q3 q4 q5 hst k0' g1 g2 g3 gt;have g1:=k3 _ _ h1;have g2:=k3 _ _ h2;have g3:=k3 _ _ h3
     repeat' first|simp(disch:=try exact jh) only[go_sem, *] | (apply xs<;>intro _)<;>try omega
     generalize hh4:h3'.set N _=h4;have e1:=xK hh4;have e2:h4.get lp=some (.loop .ready none tm [p] ac bd):=by rw[←hh4,az qJ];exact j2
     rw[hh4] at j6;have w4:bQ h4 n3:=by rw[←hh4];exact bQ.set' qJ j4
     have k4:=hIk _ _ _ j6;have af:=iH (n:=n3) (T.keep k4) rn lv;refine zc (af) ?_;rintro w h5 n5' ⟨rfl,hh5,hn5⟩;subst hh5 hn5;obtain⟨ra0,ra1⟩:=har rn;clear hh4 j1 j2 j3 j4 k3 j8 af
     repeat' first|simp(disch:=try exact jh) only[go_sem, *] | (apply xs<;>intro _)<;>try omega
     refine ih t' _ _ _ qJ ⟨Ji l W rn lv,S.set rn true,ws++[(rn:Int)],ra0,ra1,by rw[List.length_set];exact Ej,hco,by rw[List.length_append];simp only[List.length_cons,List.length_nil];omega,by rw[List.append_assoc];exact hch,?_⟩;clear ih hrl har;simp(disch:=try exact jh) only[go_sem, *]
     try omega
    ·rw[chain,if_neg (fun q=>c2 q.2.2),List.append_nil] at hch;subst hch;have c2':qx l.H rn≤lv:=by omega
     clear hstep ih j8 hgD c2 T
     repeat' first|simp(disch:=try exact jh) only[go_sem, *,cu,cT] | (apply xs<;>intro _)<;>try omega
     try exact⟨_,rfl⟩
  ·have oK:chain l W lv t S rn=[]:=by
    cases t with
    |zero=>rfl
    |succ t=>rw[chain,if_neg];exact fun q=>c1 q.1
   rw[oK,List.append_nil] at hch;subst hch;clear ih hstep j8 hgD T
   repeat' first|simp(disch:=try exact jh) only[go_sem, *] | (apply xs<;>intro _)<;>try omega
   try exact⟨_,rfl⟩
structure ApI(h0:PT aj)(N:Nat)(ws:List Int)(h:PT aj)(n:Nat):Prop where
 out:∃ sl,h.get N=some (.cells (PT.ofList .leaf 0 [sl]) false)∧bg .i64 h (N+4) sl ws
 dfr:h.get (N+1)=some .deferred
 kept:Kept h0 h
theorem ab3{p1 p2 p3 N:Nat}{v lv:Int}(hW:bQ h N)(h1:h.get p1=row [pt tb])(h2:h.get p2=row [I6 v])(h3:h.get p3=row [I6 lv])(T:N36 h tb mb wb lb lg W l)(hv:0≤v∧v≤1000):
  cE prog OB 174 [.slice none 0 0,.func (.func 129) ⟨[]⟩ ⟨[pt p1,pt p2,pt p3]⟩] h N fun r h' n'=>bg .i64 h' N r (wE l W v lv)∧Kept h h'∧bQ h' n'∧N≤n':=by
 refine acC (N:=13) func174 rfl rfl fun z hP hO hro hN hQ=>?_;have hlH:=T.fH
 repeat' first|simp(disch:=try exact jh) only[go_sem, *] | (apply xs<;>intro _)<;>try omega
 refine ahi (fun m'=>m'.n=13∧m'.fF=[]∧m'.get 2=pt N∧m'.get 6 = .func (.func 129) ⟨[]⟩ ⟨[pt p1,pt p2,pt p3]⟩) ?_ ?_
 ·simp(disch:=try exact jh) only[go_sem, *]
 rintro m ⟨m1,m2,m3,m4⟩;generalize hhr:PT.set h N _=hr;have e1:hr.get N=some (.cells (PT.ofList .leaf 0 [.slice none 0 0]) false):=xK hhr;have hWr:bQ hr (N+1):=by rw[←hhr];exact hW.set qJ qJ
 have hkr:Kept h hr:=by rw[←hhr];exact hW.kept (Nat.le_refl _)
 clear hhr;refine ae8 (f:=129) (args:=[.func (.yield (N+2)) ⟨[]⟩ ⟨[]⟩,pt p1,pt p2,pt p3]) (R:=fun h' n'=>ApI h N (wE l W v lv) h' n'∧bQ h' n'∧N+4≤n') (by rw[m1,hN]) hro rfl m4 (by rw[hP];rfl) (by rw[hO];rfl) ?_ ?_
 ·rw[hP,hO];refine(ahn m 7 qJ _ _ (fun ws h' n'=>ApI h N ws h' n') (bQ.set' qJ (hWr.set qJ qJ)) (Kept.set' hW qJ (Kept.set' hW qJ hkr)) h1 h2 h3 T hv aI ?_ ?_ ?_ ?_).mono fun r h' n' q=>⟨⟨q.1,q.2.2.1,by have:=q.2.2.2;omega⟩,q.2.1⟩
  ·intro x;refine⟨⟨.slice none 0 0,?_,.inl ⟨rfl,rfl⟩⟩,?_,Kept.set' hW qJ (Kept.set' hW qJ (Kept.set' hW qJ hkr))⟩
   ·simp(disch:=omega) only[az];exact e1
   ·rw[az qJ,az qJ];exact aI
  ·rintro ws h' n' ⟨_,_,q⟩;exact q
  ·rintro ws h' n' x ⟨⟨sl,o1,o2⟩,o4,o5⟩;exact⟨⟨sl,by rw[az qJ];exact o1,o2.low qJ⟩,by rw[az qJ];exact o4,Kept.set' hW qJ o5⟩
  ·rintro ws r h' n' hW' hN' ⟨⟨sl,o1,o2⟩,o4,o5⟩ rP hr hlp;have hsn:ws.map (Value.int .i64)++[.int .i64 r]=(ws++[r]).map (.int .i64):=by simp
   refine N22 (N:=13) (tm:=m) (ps:=[7]) fun z0 h0P h0O aBy h0N h0Q=>?_
   repeat' first|simp(disch:=try exact jh) only[go_sem, *] | (apply xs<;>intro _)<;>try omega
   intro z1 h1P h1O aJK h1N h1Q;clear h0P h0O aBy h0N h0Q hQ hP hO hro hN e1 h1 h2 h3 T hr
   rcases o2 with ⟨rfl,rfl⟩ | ⟨g,rfl,g1,g3⟩
   ·repeat' first|simp(disch:=try exact jh) only[go_sem, *] | (apply xs<;>intro _)<;>try omega
    refine⟨⟨⟨.slice (some ⟨n'+1,0,none⟩) 1 (aA+1),by simp(disch:=omega) only[az,aI],.inr ⟨n'+1,rfl,by omega,by simp(disch:=omega) only[az,aI];rfl⟩⟩,by simp(disch:=omega) only[az];exact o4,?_⟩,?_,by omega⟩
    ·exact Kept.set' hW qJ (Kept.set' hW qJ (Kept.set' hW qJ (Kept.set' hW qJ (Kept.set' hW qJ o5))))
    ·exact bQ.set' qJ (bQ.set' qJ (bQ.set' qJ (bQ.set' qJ (hW'.mono qJ |>.set (Nat.le_refl _) qJ))))
   ·have hgn:=hW'.lt g3;have zJ:List.take ws.length (ws.map (Value.int .i64))=ws.map (.int .i64):=jH;have hml:(ws.map (Value.int .i64)).length=ws.length:=List.length_map _;have Lb:Nat.ble (ws.length+1) 1048576=true:=Nat.ble_eq_true_of_le qJ;have aJL:g≠N+2∧g≠N∧g≠N+1:=by omega
    repeat' first|simp(disch:=try exact jh) only[go_sem, *] | (apply xs<;>intro _)<;>try omega
    refine⟨⟨⟨.slice (some ⟨n'+1,0,none⟩) (ws.length+1) (aA+1),by simp(disch:=omega) only[az,aI],.inr ⟨n'+1,by rw[List.length_append];rfl,by omega,by simp(disch:=omega) only[az,aI]⟩⟩,by simp(disch:=omega) only[az];exact o4,?_⟩,?_,by omega⟩
    ·exact Kept.set' hW qJ (Kept.set' hW qJ (Kept.set' hW qJ (Kept.set' hW qJ (Kept.set' hW qJ (Kept.set' hW qJ o5)))))
    ·exact bQ.set' qJ (bQ.set' qJ (bQ.set' qJ (bQ.set' qJ (bQ.set' qJ (hW'.mono qJ |>.set (Nat.le_refl _) qJ)))))
 ·rintro h' n' ⟨⟨⟨sl,o1,o2⟩,o4,o5⟩,hW',hN'⟩;generalize wE l W v lv=C at*;have vC:∀ g,Kept h (PT.set (PT.set h' (N+2) g) (N+1) none):=fun g=>Kept.set' hW qJ (Kept.set' hW qJ o5);have Lz:∀ g,bQ (PT.set (PT.set h' (N+2) g) (N+1) none) n':=fun g=>bQ.set' qJ (bQ.set' qJ hW');have hgr:∀ g,bg .i64 (PT.set (PT.set h' (N+2) g) (N+1) none) N sl C:=fun g=>by
   have:=(o2.low (j:=N+2) (B:=g) qJ).low (j:=N+1) (B:=none) qJ
   rcases this with q | ⟨b,q1,q2,q3⟩
   ·exact .inl q
   ·exact .inr ⟨b,q1,by omega,q3⟩
  have hN3:N≤n':=by omega
  repeat' first|simp(disch:=try exact jh) only[go_sem, *] | (apply xs<;>intro _)<;>try omega
theorem arf{N:Nat}{v lv:Int}(hW:bQ h N)(T:N36 h tb mb wb lb lg W l)(hv:0≤v∧v≤1000)(he:sS l (-1-v) lv=0):
  cE prog OB 41 [pt tb,I6 v,I6 lv] h N fun r h' n'=>∃ s,r=iU [s,I6 0]∧bg .i64 h' N s (wE l W v lv)∧Kept h h'∧bQ h' n'∧N≤n':=by
 have hvv:=hv;obtain⟨hv0,hv1⟩:=hv;have hl:=T.fl;have ht:=T.ft;have hrl:=fun h' hk z f d ops r K m n=>@cw _ _ _ _ h' hl z f d ops r K m n hk;have hnv: ¬ v<0:=by omega
 refine ay (N:=34) func41 rfl rfl fun z hP hO hro hN hQ=>?_
 repeat' first|simp(disch:=try exact jh) only[go_sem, *,AH,j5] | (apply xs<;>intro _)<;>try omega|refine fun (_ _:List Nat)=>?_ | (first|refine bD func101 rfl ?_ ?_ ?_ ?_ |refine bD func58 rfl ?_ ?_ ?_ ?_ |fail)<;>intros
 generalize hh:((h.set N _).set (N+1) _).set (N+1+1) _=h1;have k1:Kept h h1:=by rw[←hh];exact Kept.set' hW qJ (Kept.set' hW qJ (hW.kept (Nat.le_refl _)))
 have e1:h1.get N=row [pt tb]:=by rw[←hh];simp(disch:=omega) only[az,aI]
 have e2:h1.get (N+1)=row [I6 v]:=by rw[←hh];simp(disch:=omega) only[az,aI]
 have e3:h1.get (N+1+1)=row [I6 lv]:=by rw[←hh];exact aI
 have w1:bQ h1 (N+1+1+1):=by rw[←hh];exact bQ.set' qJ (bQ.set' qJ (hW.set qJ qJ))
 clear hh;have arn:=ab3 (N:=N+1+1+1) w1 e1 e2 e3 (T.keep k1) hvv;clear hrl hl ht e1 e2 e3;refine zc (arn) ?_;rintro r h2 n2 ⟨q1,q2,q5,q6⟩;have q3:=k1.trans q2;have q4:bg .i64 h2 N r (wE l W v lv):=by
  rcases q1 with q | ⟨b,p1,p2,p3⟩
  ·exact .inl q
  ·exact .inr ⟨b,p1,by omega,p3⟩
 clear q1 q2 k1 arn
 repeat' first|simp(disch:=try exact jh) only[go_sem, *] | (apply xs<;>intro _)<;>try omega|refine fun (_ _:List Nat)=>?_
 first|exact⟨r,rfl,q4,by omega⟩ |exact⟨q4,by omega⟩ |omega
end
end Go.Proofs.YtofmbmclopgldaaGreat
namespace Go.Proofs.YtofmbmclopgldaaGreat
open Go.Am Go.Proofs.Tryz
abbrev z8:List Rl:=[(300,0),(301,0),(302,0),(303,0),(304,0)]
section
variable {E:Ev} {W:List Int} {L:List Value} {k:Nat} {d:Rl→Nat} {C:Rl→Option aj} {h:PT aj} {n:Nat}
theorem arp(S:St h n d C)(M:jm d C W L k)(p0:C (78,0)=row [pt (d rM),pt E.lb]){i:Nat}(hi:i<W.length):
  cE prog OB 104 [pt (d (78,0)),I6 i,I6 0] h n fun v h' n'=>∃ d' C',Nz n d C [] [] d' C' h' n'∧v=U6 W[i]:=by
 have g0:=S.at p0;have gm:=S.at M.mem;have gw:=S.at M.words;have hg:=dP hi;generalize W[i]=x at*;have c3:(0:Int)≤(i:Int):=by omega
 have c4:(i:Int)<(W.length:Int):=by omega
 have hN:∃ d' C',Nz n d C [] [] d' C' h n:=⟨d,C,Nz.refl S⟩;refine ay (N:=21) func104 rfl rfl fun z hP hO hro hN hQ=>?_;clear p0 S M
 repeat' first|simp(disch:=try exact jh) only[go_sem, *] | (apply xs<;>intro _)<;>try omega|refine fun (_ _:List Nat)=>?_ | (first|refine bD func114 rfl ?_ ?_ ?_ ?_ |refine bD func69 rfl ?_ ?_ ?_ ?_ |refine bD func178 rfl ?_ ?_ ?_ ?_ |fail)<;>intros
theorem aBz{tb mb wb lb p1 p2 i:Nat}{x:Int}{lg:Value}{l:dg}{t w:Int}(ht:h.get tb=row [pt mb,pt lb])(hm:h.get mb=row [.slice (some ⟨wb,0,none⟩) W.length W.length,lg])(hw:h.get wb=row (W.map (.int .u64)))(hl:(zK (pt lb)).look h=some l)(h1:h.get p1=row [pt tb])(h2:h.get p2=row [I6 t])(e1:Ht l t w=(i:Int))(e2:Hu l t w=0)(hi:i<W.length)(hx:(W.map (Value.int .u64))[i]? = some (U6 x)):
  cE prog OB 103 [I6 w,pt p1,pt p2] h n fun v h' n'=>v=U6 x∧h'=h∧n'=n:=by
 have hrl:=fun h' hk z f d ops r K m n=>@cw _ _ _ _ h' hl z f d ops r K m n hk;have Co:=fun h' hk z L f d ops r K m n lo rd wr fs=>@eT _ _ _ _ h' hl z L f d ops r K m n lo rd wr fs hk;have c3:(0:Int)≤(i:Int):=by omega
 have c4:(i:Int)<(W.length:Int):=by omega
 refine ay (N:=16) func103 rfl rfl fun z hP hO hro hN hQ=>?_
 repeat' first|simp(disch:=try exact jh) only[go_sem, *,yD,og] | (apply xs<;>intro _)<;>try omega | ((with_reducible refine b8 1 ?_);refine dw 16 1 w103_1 (by first | (simp only[go_sem, *];done)|rfl) (by kernel_rfl) (by kernel_rfl) ?_)|refine fun (_ _:List Nat)=>?_ | (first|refine bD func104 rfl ?_ ?_ ?_ ?_ |refine bD func114 rfl ?_ ?_ ?_ ?_ |refine bD func69 rfl ?_ ?_ ?_ ?_ |refine bD func178 rfl ?_ ?_ ?_ ?_ |fail)<;>intros
theorem aBA(S:St h n d C)(M:jm d C W L k)(p0:C (78,0)=row [pt (d rM),pt E.lb])(F:Fz E.h1 E.n1 d C)(ok:tF E)(hn:E.n1≤n){t:Int}(hT:ux E.l t)(rQ:W.length=E.sz)(hu:∀ x∈W,0≤x∧x<18446744073709551616):
  cE prog OB 42 [pt (d (78,0)),I6 t] h n fun y h' n'=>∃ d' C',Nz n d C z8 z8 d' C' h' n'∧∃ x1 x2 x3 x4 s,bw s=true∧y=iU [.agg ⟨[U6 (vm W (ta E.l t)),U6 x1,U6 x2,U6 x3,U6 x4,s]⟩,I6 0]:=by
 have hl:=gT (F.kept S) ok.look;have hrl:=fun h' hk z f d ops r K m n=>@cw _ _ _ _ h' hl z f d ops r K m n hk;have Co:=fun h' hk z L f d ops r K m n lo rd wr fs=>@eT _ _ _ _ h' hl z L f d ops r K m n lo rd wr fs hk;have tw:=ok.num.vh hT;have q0:=S.lt p0;have Fu:=S.wf;have eh:yC E.l.H t=0:=by unfold yC;rw[if_pos (show 1≤t∧t≤_ from hT)]
 have eg:qx E.l.H t=hgt E.l t:=by unfold qx;rw[if_pos (show 1≤t∧t≤_ from hT)];rfl
 have g0:=S.at p0;have word:∀ w:Nat,w<5→∃ x,(w=0→x=vm W (ta E.l t))∧∀ (d':Rl→Nat) (C':Rl→Option aj) (h':PT aj) (n' p1 p2:Nat),St h' n' d' C'→(∀ r,r.1<80→d' r=d r∧C' r=C r)→Fz E.h1 E.n1 d' C'→h'.get p1=row [pt (d (78,0))]→h'.get p2=row [I6 t]→cE prog OB 103 [I6 w,pt p1,pt p2] h' n' fun v h2 n2=>v=U6 x∧h2=h'∧n2=n':=fun w hw=>by
  have e:=ok.num.wrd hT (w:=(w:Int)) qJ;have hi:ta E.l t+w<W.length:=by omega
  refine⟨W[ta E.l t+w],fun q=>by subst q;exact(iJ (i:=ta E.l t) hi).symm,fun d' C' h' n' p1 p2 S' hfr F' g1 g2=>?_⟩;have f:=fun a (ha:a<80)=>hfr (a,0) ha;have M':jm d' C' W L k:=M.of fun a ha=>f a qJ;have p0':C' (78,0)=row [pt (d' rM),pt E.lb]:=by rw[(f 78 qi).2,(f 0 qi).1];exact p0
  have gt:=S'.at p0';rw[(f 78 qi).1] at gt;exact aBz gt (S'.at M'.mem) (S'.at M'.words) (gT (F'.kept S') ok.look) g1 g2 (by rw[e.1];omega) e.2 hi (dP hi)
 obtain⟨-,-,tw3,tw4,tw5⟩:=tw;refine ay (N:=61) func42 rfl rfl fun z hP hO hro hN hQ=>?_
 repeat' first|simp(disch:=try exact jh) only[go_sem, *,cu,cT] | (apply xs<;>intro _)<;>try omega | ((with_reducible refine b8 3 ?_);refine dw 61 3 w42_3 (by first | (simp only[go_sem, *];done)|rfl) (by kernel_rfl) (by kernel_rfl) ?_)
 obtain⟨d1,C1,N1,ahw,ahG,ahI,ahV,ahX,ah0⟩:∃ d1 C1,Nz n d C z8 z8 d1 C1 (((h.set n (row [pt (d (78,0))])).set (n+1) (row [I6 t])).set (n+1+1) (row [U6 0,U6 0,U6 0,U6 0,U6 0,.slice none 0 0])) (n+1+1+1)∧d1 (300,0)=n∧d1 (301,0)=n+1∧d1 (302,0)=n+1+1∧C1 (300,0)=row [pt (d (78,0))]∧C1 (301,0)=row [I6 t]∧C1 (302,0)=row [U6 0,U6 0,U6 0,U6 0,U6 0,.slice none 0 0]:=
  have s1:=S.new (300,0) (.cells (PT.ofList .leaf 0 [pt (d (78,0))]) false) (Nat.le_refl _) (Nat.lt_succ_self _);have s2:=s1.new (301,0) (.cells (PT.ofList .leaf 0 [I6 t]) false) (Nat.le_refl _) (Nat.lt_succ_self _);have s3:=s2.new (302,0) (.cells (PT.ofList .leaf 0 [U6 0,U6 0,U6 0,U6 0,U6 0,.slice none 0 0]) false) (Nat.le_refl _) (Nat.lt_succ_self _)
  ⟨_,_,((Nz.new qi (Nat.le_refl _) (Nat.le_succ _) s1).trans (Nz.new qi (Nat.le_refl _) (Nat.le_succ _) s2)).trans (Nz.new qi (Nat.le_refl _) (Nat.le_succ _) s3),(au qi).trans ((au qi).trans aq),(au qi).trans aq,aq,(au qi).trans ((au qi).trans aq),(au qi).trans aq,aq⟩
 have hfr:∀ (d':Rl→Nat) (C':Rl→Option aj) (h':PT aj) (n':Nat),Nz n d C z8 z8 d' C' h' n'→∀ r,r.1<80→d' r=d r∧C' r=C r:=fun d' C' h' n' N r hr=>⟨N.dd r fun q=>by simp at q;rcases q with q |q |q |q |q<;>subst q<;>simp at hr,N.cc r fun q=>by simp at q;rcases q with q |q |q |q |q<;>subst q<;>simp at hr⟩;have N29:=N1.st.at ahV;have N33:=N1.st.at ahX;have N18:=N1.st.at ah0;rw[ahw] at N29;rw[ahG] at N33;rw[ahI] at N18;obtain⟨X0,z0,w0⟩:=word 0 qi;obtain⟨X1,-,w1⟩:=word 1 qi;obtain⟨X2,-,w2⟩:=word 2 qi;obtain⟨X3,-,w3⟩:=word 3 qi;obtain⟨X4,-,w4⟩:=word 4 qi;have w0:=w0 d1 C1 _ _ n (n+1) N1.st (hfr _ _ _ _ N1) (N1.fz _ _ hn F) N29 N33;have w1:=w1 d1 C1 _ _ n (n+1) N1.st (hfr _ _ _ _ N1) (N1.fz _ _ hn F) N29 N33;have w2:=w2 d1 C1 _ _ n (n+1) N1.st (hfr _ _ _ _ N1) (N1.fz _ _ hn F) N29 N33;have w3:=w3 d1 C1 _ _ n (n+1) N1.st (hfr _ _ _ _ N1) (N1.fz _ _ hn F) N29 N33;have w4:=w4 d1 C1 _ _ n (n+1) N1.st (hfr _ _ _ _ N1) (N1.fz _ _ hn F) N29 N33;rw[show ((0:Nat):Int)=0 from rfl] at w0;rw[show ((1:Nat):Int)=1 from rfl] at w1;rw[show ((2:Nat):Int)=2 from rfl] at w2;rw[show ((3:Nat):Int)=3 from rfl] at w3;rw[show ((4:Nat):Int)=4 from rfl] at w4;rw[←z0 rfl] at hQ;generalize ((h.set n (row [pt (d (78,0))])).set (n+1) (row [I6 t])).set (n+1+1) (row [U6 0,U6 0,U6 0,U6 0,U6 0,.slice none 0 0])=h1 at*;clear word Co z0;refine zc (w0) ?_;rintro v h2 n2 ⟨rfl,rfl,rfl⟩
 repeat' first|simp(disch:=try exact jh) only[go_sem, *] | (apply xs<;>intro _)<;>try omega
 refine zc (w1) ?_;rintro v h2 n2 ⟨rfl,rfl,rfl⟩
 repeat' first|simp(disch:=try exact jh) only[go_sem, *] | (apply xs<;>intro _)<;>try omega
 refine zc (w2) ?_;rintro v h2 n2 ⟨rfl,rfl,rfl⟩
 repeat' first|simp(disch:=try exact jh) only[go_sem, *] | (apply xs<;>intro _)<;>try omega
 refine zc (w3) ?_;rintro v h2 n2 ⟨rfl,rfl,rfl⟩
 repeat' first|simp(disch:=try exact jh) only[go_sem, *] | (apply xs<;>intro _)<;>try omega
 refine zc (w4) ?_;rintro v h2 n2 ⟨rfl,rfl,rfl⟩;clear w0 w1 w2 w3 w4
 repeat' first|simp(disch:=try exact jh) only[go_sem, *] | (apply xs<;>intro _)<;>try omega
 have hK0:=N1.st;obtain⟨d2,C2,N2,f300,f301,f302,f303,ab_,ab',N37,I5⟩:∃ d2 C2,Nz n d C z8 z8 d2 C2 ((h2.set (n+1+1+1) (row [U6 0,U6 0,U6 0,U6 0,U6 0,.slice none 0 0])).set (n+1+1+1) (row [U6 X0,U6 X1,U6 X2,U6 X3,U6 X4,.slice none 0 0])) (n+1+1+1+1)∧d2 (300,0)=n∧d2 (301,0)=n+1∧d2 (302,0)=n+1+1∧d2 (303,0)=n+1+1+1∧C2 (300,0)=row [pt (d (78,0))]∧C2 (301,0)=row [I6 t]∧C2 (302,0)=row [U6 0,U6 0,U6 0,U6 0,U6 0,.slice none 0 0]∧C2 (303,0)=row [U6 X0,U6 X1,U6 X2,U6 X3,U6 X4,.slice none 0 0]:=
  ⟨_,_,N1.trans (Nz.new qi (Nat.le_refl _) (Nat.le_succ _) (N1.st.new2 (A:=row [U6 0,U6 0,U6 0,U6 0,U6 0,.slice none 0 0]) (303,0) (.cells (PT.ofList .leaf 0 [U6 X0,U6 X1,U6 X2,U6 X3,U6 X4,.slice none 0 0]) false) (Nat.le_refl _) (Nat.lt_succ_self _))),(au qi).trans ahw,(au qi).trans ahG,(au qi).trans ahI,aq,(au qi).trans ahV,(au qi).trans ahX,(au qi).trans ah0,aq⟩
 clear N1 ahw ahG ahI ahV ahX ah0 N29 N33 N18 hK0;generalize (h2.set (n+1+1+1) (row [U6 0,U6 0,U6 0,U6 0,U6 0,.slice none 0 0])).set (n+1+1+1) (row [U6 X0,U6 X1,U6 X2,U6 X3,U6 X4,.slice none 0 0])=h3 at*;obtain⟨H,hH⟩:∃ H:Nat,hgt E.l t=H:=⟨(hgt E.l t).toNat,by omega⟩;rw[hH] at tw3 tw4 tw5 eg;refine a_ (fun t' m h' n'=>∃ (lv:Nat) (d':Rl→Nat) (C':Rl→Option aj) (ws:List Int),lv≤H∧t'=H-lv∧m.n=61∧m.fF=[]∧m.get 2=pt n∧m.get 3=pt (n+1)∧m.get 4=pt (n+1+1)∧m.get 9=pt (n+1+1+1)∧m.get 39=I6 H∧m.get 40=I6 lv∧Nz n d C z8 z8 d' C' h' n'∧d' (300,0)=n∧d' (301,0)=n+1∧d' (302,0)=n+1+1∧d' (303,0)=n+1+1+1∧C' (300,0)=row [pt (d (78,0))]∧C' (301,0)=row [I6 t]∧C' (302,0)=row [U6 0,U6 0,U6 0,U6 0,U6 0,.slice none 0 0]∧
  C' (303,0)=row [U6 X0,U6 X1,U6 X2,U6 X3,U6 X4,grV (d' (304,0)) lv]∧ws.length=lv∧(0<lv→C' (304,0)=row (ws.map (.int .u64)))∧n+1+1+1+1≤n') H ?_ ?_
 ·refine⟨0,d2,C2,[],by omega,by omega,?_⟩;have g9:grV (d2 (304,0)) 0 = .slice none 0 0:=rfl;rw[g9];simp(disch:=try exact jh) only[go_sem, *]
  first|exact⟨N2,f300,f301,f302,f303,ab_,ab',N37,I5,rfl,fun q=>absurd q qi,Nat.le_refl _⟩ |exact⟨rfl,N2,f300,f301,f302,f303,ab_,ab',N37,I5,rfl,fun q=>absurd q qi,Nat.le_refl _⟩ |exact⟨fun q=>q.elim,Nat.le_refl _⟩ |trace_state
 ·clear N2 f300 f301 f302 f303 ab_ ab' N37 I5 hrl hl q0 g0 Fu;rintro t' m h' n' ih ⟨lv,d3,C3,ws,hlv,rfl,m1,m2,m3,m4,m5,m6,m7,m8,N3,f300,f301,f302,f303,ab_,ab',N37,I5,hws,hr,hn3⟩;have S3:=N3.st;have N29:=S3.at ab_;have N33:=S3.at ab';have N18:=S3.at N37;have N17:=S3.at I5;rw[f300] at N29;rw[f301] at N33;rw[f302] at N18;rw[f303] at N17;have q78:=hfr _ _ _ _ N3 (78,0) qi;have p3:C3 (78,0)=row [pt (d3 rM),pt E.lb]:=by rw[q78.2,(hfr _ _ _ _ N3 rM qi).1];exact p0
  have k78:=S3.at p3;rw[q78.1] at k78;have F3:=N3.fz _ _ hn F;have hl:=gT (F3.kept S3) ok.look;have Co:=fun h' hk z L f d ops r K m n lo rd wr fs=>@eT _ _ _ _ h' hl z L f d ops r K m n lo rd wr fs hk;have M3:jm d3 C3 W L k:=M.of fun a ha=>hfr _ _ _ _ N3 (a,0) (by show a<80;omega);by_cases hlt:lv<H
  ·have e7:(lv:Int)<H:=by omega
   have PG:(lv:Int)+1=((lv+1:Nat):Int):=by omega
   have hnd:Nd E.l E.V t lv:=⟨by omega,.inr ⟨hT,by omega⟩⟩;have en:=ok.num.nxt hnd;have hR:=(ok.num.naR hnd).2;have hi:na E.l t lv<W.length:=by omega
   have N24:=S3.lt I5;have aci:=S3.off (P:=(78,0)::mA) I5 qi;rw[f303] at N24 aci;have pk:=fun h1 s1=>arp (h:=h1) (n:=n') s1 (M3.vl (P:=(78,0)::mA) fun _ h=>List.mem_cons_of_mem _ h) ((pO (by simp)).trans p3) hi;rw[q78.1] at pk;generalize W[na E.l t lv]=x at*;generalize na E.l t lv=aa at*
   repeat' first|simp(disch:=try exact jh) only[go_sem, *,AH,j5] | (apply xs<;>intro _)<;>try omega | ((with_reducible refine b8 11 ?_);refine dw 61 11 w42_11 (by first | (simp only[go_sem, *];done)|rfl) (by kernel_rfl) (by kernel_rfl) ?_)
   refine lN ((78,0)::mA) S3 pk (by simp) (by simp) (by simp only[*]) (by simp only[*]) (by simp only[go_sem, *]) (by simp only[go_sem, *]) ?_;rintro v h4 n4 d4 C0 C4 N4 hC rfl rd wr hme;have aBE:=hme (n+1+1+1) N24 aci;obtain⟨⟨r1,r2⟩,r3,r4⟩:=aBE;have e4:∀ r:Rl,d4 r=d3 r∧C4 r=C3 r:=fun r=>⟨N4.dd r (by simp),N4.cc r (by simp)⟩;have N5:=N3.trans (N4.sub (X':=z8) (Y':=z8) (by simp) (by simp));have N17:=N4.st.at ((e4 (303,0)).2.trans I5);rw[(e4 (303,0)).1,f303] at N17;have lt4:n+1+1+1<n4:=by have:=N4.le;omega
   have ihh:=ih;clear ih hme pk N29 N33 N18 k78 Co hl aci hC en;have hw1:(ws++[x]).length=lv+1:=by simp[hws]
   have hwm:(ws++[x]).map (Value.int .u64)=ws.map (.int .u64)++[U6 x]:=by simp
   have fin:∀ (d5:Rl→Nat) (C5:Rl→Option aj) (h5:PT aj) (n5:Nat) (sl:Value),Nz n d C z8 z8 d5 C5 h5 n5→(∀ r:Rl,r.1<303→299<r.1→d5 r=d3 r∧C5 r=C3 r)→d5 (303,0)=n+1+1+1→C5 (303,0)=row [U6 X0,U6 X1,U6 X2,U6 X3,U6 X4,.slice none 0 0]→True:=fun _ _ _ _ _ _ _ _ _=>trivial;clear fin
   rcases Nat.eq_zero_or_pos lv with l0 |l0
   ·subst l0;have wl:ws=[]:=List.length_eq_zero_iff.1 hws;subst wl;have hz:grV (d3 (304,0)) 0 = .slice none 0 0:=rfl;rw[hz] at N17 I5;have N6:=N19 (t:=304) qi N4.st (row [U6 x]) [U6 x];have c6:upd C4 (304,0) (row [U6 x]) (303,0)=row [U6 X0,U6 X1,U6 X2,U6 X3,U6 X4,.slice none 0 0]:=(au qi).trans ((e4 (303,0)).2.trans I5);obtain⟨d7,C7,N7,d6,d61,c7,c73,c74⟩:∃ d7 C7,Nz n d C z8 z8 d7 C7 (((h4.set n4 (row [U6 x])).set (n4+1) (row [U6 x])).set (n+1+1+1) (row [U6 X0,U6 X1,U6 X2,U6 X3,U6 X4,.slice (some ⟨n4+1,0,none⟩) 1 (aA+1)])) (n4+1+1)∧(∀ a,a≠304→d7 (a,0)=d3 (a,0))∧d7 (304,0)=n4+1∧(∀ a,a≠304→a≠303→C7 (a,0)=C3 (a,0))∧C7 (303,0)=row [U6 X0,U6 X1,U6 X2,U6 X3,U6 X4,.slice (some ⟨n4+1,0,none⟩) 1 (aA+1)]∧C7 (304,0)=row ([U6 x]):=by
     have d6:upd d4 (304,0) (n4+1) (303,0)=n+1+1+1:=(au qi).trans ((e4 _).1.trans f303);exact⟨_,_,(N5.trans (N6.sub (X':=z8) (Y':=z8) (by simp) (by simp))).trans (Nz.set (t:=303) (b:=0) (B := .cells (PT.ofList .leaf 0 [U6 X0,U6 X1,U6 X2,U6 X3,U6 X4,.slice (some ⟨n4+1,0,none⟩) 1 (aA+1)]) false) qi c6 (N6.st.set (303,0) _ c6 d6)),fun a ha=>(au ha).trans (e4 _).1,aq,fun a h1 h2=>(au h2).trans ((au h1).trans (e4 _).2),aq,(au qi).trans aq⟩
    have i1:d7 (300,0)=n:=(d6 300 qi).trans f300;have i2:d7 (301,0)=n+1:=(d6 301 qi).trans f301;have i3:d7 (302,0)=n+1+1:=(d6 302 qi).trans f302;have i4:d7 (303,0)=n+1+1+1:=(d6 303 qi).trans f303;have j1:=(c7 300 qi qi).trans ab_;have j2:=(c7 301 qi qi).trans ab';have j3:=(c7 302 qi qi).trans N37;have hg:grV (d7 (304,0)) (0+1) = .slice (some ⟨n4+1,0,none⟩) 1 (aA+1):=by rw[d61];rfl
    rw[←hg] at c73;clear N6 c6 d6 c7 N5 N4 N3 S3 e4
    repeat' first|simp(disch:=try exact jh) only[go_sem, *] | (apply xs<;>intro _)<;>try omega
    refine ihh (H-(0+1)) _ _ _ qJ ⟨0+1,d7,C7,[x],by omega,rfl,?_⟩;clear ihh;simp(disch:=try exact jh) only[go_sem, *]
    first|exact⟨rfl,N7,i1,i2,i3,i4,j1,j2,j3,c73,rfl,fun _=>c74,by omega⟩ |exact⟨N7,i1,i2,i3,i4,j1,j2,j3,c73,rfl,fun _=>c74,by omega⟩ |exact⟨rfl,fun _=>trivial,by omega⟩ |trace_state
   ·have r0:=hr l0;have rr:C4 (304,0)=row (ws.map (.int .u64)):=(e4 (304,0)).2.trans r0;have aBF:=N4.st.at rr;rw[(e4 (304,0)).1] at aBF;have aBG:=N4.st.lt rr;rw[(e4 (304,0)).1] at aBG;have hdf:=S3.df I5 r0 qi;rw[f303] at hdf;rw[N30 l0] at N17 I5;have N6:=N15 (t:=304) qi N4.st (row [U6 x]) rr ((ws++[x]).map (.int .u64));rw[(e4 (304,0)).1] at N6;have c6:upd (upd C4 (304,0) none) (304,0) (row ((ws++[x]).map (.int .u64))) (303,0)=row [U6 X0,U6 X1,U6 X2,U6 X3,U6 X4,.slice (some ⟨d3 (304,0),0,none⟩) lv (aA+1)]:=(au qi).trans ((au qi).trans ((e4 (303,0)).2.trans I5));obtain⟨d7,C7,N7,d6,d61,c7,c73,c74⟩:∃ d7 C7,Nz n d C z8 z8 d7 C7 ((((h4.set n4 (row [U6 x])).set (d3 (304,0)) none).set (n4+1) (row ((ws++[x]).map (.int .u64)))).set (n+1+1+1) (row [U6 X0,U6 X1,U6 X2,U6 X3,U6 X4,.slice (some ⟨n4+1,0,none⟩) (lv+1:Nat) (aA+1)])) (n4+1+1)∧(∀ a,a≠304→d7 (a,0)=d3 (a,0))∧d7 (304,0)=n4+1∧(∀ a,a≠304→a≠303→C7 (a,0)=C3 (a,0))∧C7 (303,0)=row [U6 X0,U6 X1,U6 X2,U6 X3,U6 X4,.slice (some ⟨n4+1,0,none⟩) (lv+1:Nat) (aA+1)]∧C7 (304,0)=row ((ws++[x]).map (.int .u64)):=by
     have d6:upd d4 (304,0) (n4+1) (303,0)=n+1+1+1:=(au qi).trans ((e4 _).1.trans f303);exact⟨_,_,(N5.trans (N6.sub (X':=z8) (Y':=z8) (by simp) (by simp))).trans (Nz.set (t:=303) (b:=0) (B := .cells (PT.ofList .leaf 0 [U6 X0,U6 X1,U6 X2,U6 X3,U6 X4,.slice (some ⟨n4+1,0,none⟩) (lv+1:Nat) (aA+1)]) false) qi c6 (N6.st.set (303,0) _ c6 d6)),fun a ha=>(au ha).trans (e4 _).1,aq,fun a h1 h2=>(au h2).trans ((au h1).trans ((au h1).trans (e4 _).2)),aq,(au qi).trans aq⟩
    have i1:d7 (300,0)=n:=(d6 300 qi).trans f300;have i2:d7 (301,0)=n+1:=(d6 301 qi).trans f301;have i3:d7 (302,0)=n+1+1:=(d6 302 qi).trans f302;have i4:d7 (303,0)=n+1+1+1:=(d6 303 qi).trans f303;have j1:=(c7 300 qi qi).trans ab_;have j2:=(c7 301 qi qi).trans ab';have j3:=(c7 302 qi qi).trans N37;have hg:grV (d7 (304,0)) (lv+1) = .slice (some ⟨n4+1,0,none⟩) (lv+1:Nat) (aA+1):=by rw[d61];exact N30 (Nat.succ_pos _)
    rw[←hg] at c73;rw[N30 l0];rw[hwm] at N7;have hml:(ws.map (Value.int .u64)).length=lv:=by rw[List.length_map,hws]
    have zJ:(ws.map (Value.int .u64)).take lv=ws.map (.int .u64):=List.take_of_length_le qJ;have Lb:Nat.ble (lv+1) 1048576=true:=Nat.ble_eq_true_of_le qJ;generalize ws.map (Value.int .u64)=La at*;clear N6 c6 d6 c7 N5 N4 N3 S3 e4 hr r0 rr I5
    repeat' first|simp(disch:=try exact jh) only[go_sem, *] | (apply xs<;>intro _)<;>try omega
    refine ihh (H-(lv+1)) _ _ _ qJ ⟨lv+1,d7,C7,ws++[x],by omega,rfl,?_⟩;clear ihh;simp(disch:=try exact jh) only[go_sem, *]
    first|exact⟨rfl,N7,i1,i2,i3,i4,j1,j2,j3,c73,hw1,fun _=>c74,by omega⟩ |exact⟨N7,i1,i2,i3,i4,j1,j2,j3,c73,hw1,fun _=>c74,by omega⟩ |exact⟨fun _=>trivial,by omega⟩ |trace_state
  ·obtain rfl:lv=H:=by omega
   have N4:=N3.trans (Nz.set (t:=302) (b:=0) (B := .cells (PT.ofList .leaf 0 [U6 X0,U6 X1,U6 X2,U6 X3,U6 X4,grV (d3 (304,0)) lv]) false) (X:=z8) (Y:=z8) qi N37 (S3.set (302,0) _ N37 f302));clear ih Co hl;have oc:bw (grV (d3 (304,0)) lv)=true:=by unfold grV;split<;>rfl
   repeat' first|simp(disch:=try exact jh) only[go_sem, *] | (apply xs<;>intro _)<;>try omega
   exact⟨_,_,N4,X1,X2,X3,X4,_,oc,rfl⟩
end
end Go.Proofs.YtofmbmclopgldaaGreat
namespace Go.Proofs.YtofmbmclopgldaaGreat
open Go.Am Go.Proofs.Tryz
structure N11(E:Ev)(s sb:Sd)(mV n3 na nb:Nat)(BF AF:List Int)(d:Rl→Nat)(C:Rl→Option aj)(h:PT aj)(n:Nat):Prop where
 T:Tw E s sb d C h n
 Mc:d (70,0)=mV
 zi:d (230,0)=n3
 zj:∃ bq,C (230,0)=row [pt mV,bq]
 ah9:d (252,0)=na
 aic:C (252,0)=row (BF.map (.int .i64))
 aid:d (253,0)=nb
 an0:C (253,0)=row (AF.map (.int .i64))
theorem N11.mv{E:Ev}{s sb:Sd}{mV n3 na nb:Nat}{BF AF:List Int}{d d':Rl→Nat}{C C':Rl→Option aj}{h h':PT aj}{n n':Nat}{X Y:List Rl}(I:N11 E s sb mV n3 na nb BF AF d C h n)(N:Nz n d C X Y d' C' h' n')(hX:∀ r∈X,(r.1∉sA∧r.1∉sB)∧r.1≠9998)(hY:∀ r∈Y,(r.1∉sA∧r.1∉sB)∧r.1≠9998)(h1:((230,0):Rl)∉X∧((252,0):Rl)∉X∧((253,0):Rl)∉X)(h2:((230,0):Rl)∉Y∧((252,0):Rl)∉Y∧((253,0):Rl)∉Y∧((70,0):Rl)∉Y):N11 E s sb mV n3 na nb BF AF d' C' h' n':=by
 obtain⟨T,Mc,zi,⟨bq,zj⟩,ah9,aic,aid,an0⟩:=I;exact⟨T.own N hX hY,(N.dd _ h2.2.2.2).trans Mc,(N.dd _ h2.1).trans zi,⟨bq,(N.cc _ h1.1).trans zj⟩,(N.dd _ h2.2.1).trans ah9,(N.cc _ h1.2.1).trans aic,(N.dd _ h2.2.2.1).trans aid,(N.cc _ h1.2.2).trans an0⟩
def SlP(sl:Value)(L:List Int)(d:Rl→Nat)(C:Rl→Option aj)(r:Rl):Prop:=∃ x cap,sl = .slice x L.length cap∧(0<L.length→x=some ⟨d r,0,none⟩∧C r=row (L.map (.int .i64)))
theorem an1{h h':PT aj}{n n':Nat}{d:Rl→Nat}{C:Rl→Option aj}{sl:Value}{L:List Int}{t:Nat}(S:St h n d C)(H:bg .i64 h' n sl L)(kk:Kept h h')(w:bQ h' n')(hn:n≤n')(h9:t≠9999):∃ d' C',Nz n d C [(t,0)] [(t,0)] d' C' h' n'∧SlP sl L d' C' (t,0):=by
 rcases H with ⟨rfl,rfl⟩ | ⟨b,rfl,hb,e⟩
 ·exact⟨d,C,Nz.keep S kk w hn,none,0,rfl,fun q=>absurd q qi⟩
 ·exact⟨_,_,Nz.take S kk w hn h9 hb e,_,_,rfl,fun _=>⟨by rw[aq],aq⟩⟩
section
variable {h:PT aj} {n:Nat}
theorem N13(hW:bQ h n){th sl en bu kd dn t0 t1 t2 t3 t4 t5 lo tr ba:Int}{s:Value}{xs:List Int}(hs:aN .u64 h s xs)(hps:∀ x∈xs,0≤x∧x<18446744073709551616)(hl:xs.length<1000000000000000)(vC:0≤kd∧kd<256)(LN:0≤en∧en<256)
  {u1:Value} {A1:List (List Int)} {p1:Nat} (Zw:o9 ksL h p1 u1 A1) {xv xk:Int} (hxv : -9223372036854775808≤xv∧xv≤9223372036854775807) (E0:0≤xk∧xk<18446744073709551616):
  cE prog OB 6 [.agg ⟨[I6 th,I6 sl,U8 en,I6 bu,U8 kd,I6 dn,s,I6 t0,I6 t1,I6 t2,I6 t3,I6 t4,I6 t5,I6 lo,I6 tr,I6 ba]⟩,u1,I6 xv,U6 xk] h n fun v h' n'=>v = .bool true:=by
 obtain⟨sa,sc,rfl,-⟩:=hs.len;obtain⟨a1,c1,rfl⟩:∃ a c,u1 = .slice a A1.length c:=by
  rcases Zw.2 with ⟨rfl,rfl⟩ | ⟨cp,rfl,-⟩
  ·exact⟨none,0,rfl⟩
  ·exact⟨_,_,rfl⟩
 refine ay (N:=148) func6 rfl rfl fun z hP hO hro hN hQ=>?_
 repeat' first|simp(disch:=try exact jh) only[go_sem, *] | (apply xs<;>intro _)<;>try omega|refine fun (_ _:List Nat)=>?_
 generalize Hy:h.set n _=h1;have W1:bQ h1 (n+1):=by
  rw[←Hy]
  (repeat refine bQ.set' qJ ?_);first|assumption|exact bQ.mono (by assumption) qJ
 have K1:Kept h h1:=by
  rw[←Hy]
  repeat refine Kept.set' hW qJ ?_
  exact Kept.refl _
 clear Hy
 repeat' first|simp(disch:=try exact jh) only[go_sem, *] | (apply xs<;>intro _)<;>try omega|refine fun (_ _:List Nat)=>?_
 refine zc (VA (St.all W1) (Fz.all W1) (Nat.le_refl _) (hs.keep K1) hps hl vC LN) ?_;rintro v h2 n2 ⟨d2,C2,th',sl',en',bu',kd',dn',t0',t1',t2',t3',t4',t5',lo',tr',ba',s2,uC,rfl,sm,tM,N2⟩;have K2:=(N2.fz _ _ (Nat.le_refl _) (Fz.all W1)).kept N2.st;have W2:=N2.st.wf;have l2:=N2.le;have K02:=K1.trans K2;clear N2 K1 K2 W1 hs;obtain⟨sa2,sc2,rfl,-⟩:=tM.len
 repeat' first|simp(disch:=try exact jh) only[go_sem, *] | (apply xs<;>intro _)<;>try omega|refine fun (_ _:List Nat)=>?_
 refine zc (aaG W2 tM sm) ?_;rintro v h3 n3 ⟨E,d3,C3,rfl,K3,hn3,T3,hPO,hV5⟩;have KE:=K02.trans K3;clear K02 K3 W2 tM sm
 repeat' first|simp(disch:=try exact jh) only[go_sem, *] | (apply xs<;>intro _)<;>try omega|refine fun (_ _:List Nat)=>?_
 rw[PT.set_set];obtain⟨d4,C4,N4,zi,zj⟩:∃ d4 C4,Nz n3 d3 C3 [(230,0)] [(230,0)] d4 C4 (h3.set n3 (row [pt (d3 (70,0)),pt (d3 qB)])) (n3+1)∧d4 (230,0)=n3∧C4 (230,0)=row [pt (d3 (70,0)),pt (d3 qB)]:=
  ⟨_,_,Nz.new qi (Nat.le_refl _) (Nat.le_succ _) (T3.st.new (230,0) _ (Nat.le_refl _) (Nat.lt_succ_self _)),aq,aq⟩
 have T4:=T3.own N4 qi qi;have ly:=Vn T4 (by show (0:Nat)≤1000;omega) (Zw.keep KE);have Mc:=N4.dd (70,0) qi;have Md:=N4.dd qB qi;unfold two at ly;rw[Mc,Md] at ly;generalize h3.set n3 _=h4 at*;refine zc (ly) ?_;rintro v h5 n5 ⟨rfl,s5,d5,C5,hL5,hk5,T5,M5⟩;have aHQ:s5.k≤720:=by have:(Sd.yL E).k=0:=rfl;omega
 obtain⟨X,F,Us⟩:=Form.N34 T5.ok Zw.1 (Nat.min_le_left _ _) (Form.yL T5.ok T3.la) hL5;have aaJ:=M5.own (230,0) qi qi;have HP:=M5.a.trans Mc;have Fa:=M5.b.trans Md;have JE:=aaJ.1.trans zi;have JF:=aaJ.2.trans zj;have pT:=T5.st.at JF;rw[JE] at pT;have hdl:=T5.dom;rw[Fa] at hdl;clear ly hL5 M5 aaJ hk5 T3 T4 N4 zi zj Mc Md hPO Fa KE;generalize d3 (70,0)=mV at*;generalize d3 qB=bq at*;have hdv:=fun z f d ops r K m n=>@cw _ _ _ _ _ hdl z f d ops r K m n (fun _ _ q=>q);have Xl:=T5.ok.dom;have hcn:=T5.ok.cnt.symm;have hV1:=T5.ok.num.V1;have hV3:E.V≤100000:=by omega
 obtain⟨o1,o2⟩:=@cZ xv E.V;have o2:=o2 qJ;generalize hvx:bh xv E.V=vv at*;obtain⟨A,B,hX,hA,hB⟩:=aah (key:=xk) (F.yt vv o1 o2);obtain⟨N,A1',A2',h0,hpc,hok,H,hN1,hN2⟩:=N20 T5.ok F o1 o2 hX hA hB;have hAl:A.length≤40:=by have:=Us vv;rw[hX] at this;simp at this;omega
 have rn:=aBt T5 qJ (th:=0) (v:=vv) (key:=xk) (N:=N) qi ⟨o1,o2⟩ E0 qJ qJ h0 hpc hok;rw[HP] at rn
 repeat' first|simp(disch:=try exact jh) only[go_sem, *,jT,sW,cJ,cG,cH,cI,Bool.not_true,Bool.not_false] | (apply xs<;>intro _)<;>try omega|refine fun (_ _:List Nat)=>?_
 refine zc (rn) ?_;rintro y h6 n6 ⟨d6,C6,rfl,N6,cF,cP,T6⟩;clear rn hdv hdl;have A8:=(N6.dd (230,0) qi).trans JE;have A_:=(N6.cc (230,0) qi).trans JF;have N25:=T6.st.at A_;rw[A8] at N25;have gF:=T6.st.at cF;have gPl:=T6.st.lt cP;have hfl:=T6.st.lt cF;have hnl:=T6.st.lt A_;rw[A8] at hnl;obtain⟨atv,aBH,-,-,-,hdone,hfo⟩:=H;generalize B6 E s5.W xk N (SS.new vv)=ss at*;obtain⟨b0,b1,b2,b3,b4,b5,hbf⟩:=six atv.bf;obtain⟨f0,f1,f2,f3,f4,f5,haf⟩:=six atv.af;simp only[kV,h0,ahj,hbf,haf,List.map_cons,List.map_nil,List.cons_append,List.nil_append] at gF;clear hpc hok pT;generalize d6 B1=fa at*
 repeat' first|simp(disch:=try exact jh) only[go_sem, *,cJ,cG,cH,cI,Bool.not_true,Bool.not_false] | (apply xs<;>intro _)<;>try omega | ((with_reducible refine b8 5 ?_);refine dw 29 5 w40_5 (by first | (simp only[go_sem, *];done)|rfl) (by kernel_rfl) (by kernel_rfl) ?_)|refine fun (_ _:List Nat)=>?_ | (first|refine bD func40 rfl ?_ ?_ ?_ ?_ |fail)<;>intros
 have ars:ss.fo=tgt E s5.W xk B:=by
  rw[hfo];by_cases c:tgt E s5.W xk B=0
  ·rw[if_neg fun q=>q.1 c,c]
  ·rw[if_pos ⟨c,.inl h0⟩]
 have arv:(if ¬tgt E s5.W xk B=0 then tgt E s5.W xk B else 0)=tgt E s5.W xk B:=by rw[←ars];split<;>omega
 rw[arv];clear hfo arv;generalize hq:(((h6.set n6 _).set (n6+1) _).set n6 _).set (n6+1) _=hb;have kb:Kept h6 hb:=by
  rw[←hq]
  repeat refine Kept.set' T6.st.wf qJ ?_
  exact Kept.refl _
 have wb:bQ hb (n6+1+1):=by
  rw[←hq];have W2:=T6.st.wf
  (repeat refine bQ.set' qJ ?_);first|assumption|exact bQ.mono (by assumption) qJ
 clear hq;have Nb:=Nz.keep (X:=[]) (Y:=[]) T6.st kb wb qJ;rw[PT.set_comm _ (i:=n6+1+1+1) (j:=n6+1+1) _ _ qJ,PT.set_set,PT.set_set];have I0:∃ d7 C7,N11 E (s5.lds E 0 xk (SS.new vv) N) s5 mV n3 (n6+1+1) (n6+1+1+1) [b0,b1,b2,b3,b4,b5] [f0,f1,f2,f3,f4,f5] d7 C7 ((hb.set (n6+1+1) (row [I6 b0,I6 b1,I6 b2,I6 b3,I6 b4,I6 b5])).set (n6+1+1+1) (row [I6 f0,I6 f1,I6 f2,I6 f3,I6 f4,I6 f5])) (n6+1+1+1+1):=by
  have Sb:=Nb.st;have S7:=Sb.new (252,0) (.cells (PT.ofList .leaf 0 [I6 b0,I6 b1,I6 b2,I6 b3,I6 b4,I6 b5]) false) (Nat.le_refl _) (Nat.lt_succ_self _);have S8:=S7.new (253,0) (.cells (PT.ofList .leaf 0 [I6 f0,I6 f1,I6 f2,I6 f3,I6 f4,I6 f5]) false) (Nat.le_refl _) (Nat.lt_succ_self _);have N8:=(Nz.new (X:=[(252,0),(253,0)]) (Y:=[(252,0),(253,0)]) qi (Nat.le_refl _) (Nat.le_succ _) S7).trans (Nz.new qi (Nat.le_refl _) (Nat.le_succ _) S8);have T8:=(T6.own Nb (by simp) (by simp)).own N8 qi qi;exact⟨_,_,T8,((au qi).trans (au qi)).trans ((N6.dd (70,0) qi).trans HP),((au qi).trans (au qi)).trans A8,⟨pt bq,((au qi).trans (au qi)).trans A_⟩,(au qi).trans aq,(au qi).trans aq,aq,aq⟩
 obtain⟨d7,C7,I0⟩:=I0;obtain⟨lw,lk,lK⟩:=@N23 E s5 0 xk (SS.new vv) N;generalize hW0:s5.W=W at*;generalize (hb.set (n6+1+1) _).set (n6+1+1+1) _=h7 at*;generalize hna:n6+1+1=na at*;generalize hnb:na+1=nb at*;have hsW:(s5.lds E 0 xk (SS.new vv) N).W=W:=lw;have aej:=fun (k:Nat) (hk:k<6)=>F.wE T5.ok o1 o2 hk;rw[hW0,hX] at aej;have N27:=fun u hu=>(F.on vv o1 o2 u (by rw[hX];exact hu)).1;have hwF:=fun (k:Nat) (w:Int) hw=>ae6 (w:=w) F o1 o2 hX (by rw[hW0];exact hA) (by rw[hW0];exact hB) k hw T5.ok;rw[hW0] at hwF;have N31:=T5.ok;have hlen:∀ k:Nat,(nL E k (A++B)).length≤40:=fun k=>by
  have h1:=Us vv;have h2:(nL E k (A++B)).length≤(A++B).length:=List.length_filter_le ..;rw[hX] at h1;simp only[List.length_nil] at h1;omega
 have hd2:=fun k hk=>hdone k hk (.inl h0);rw[hbf,haf] at hd2;clear hdone ars cF cP T6 Nb kb wb A8 A_ N25 gF gPl hfl hnl N6 T5 Us atv aBH h0 hbf haf;generalize s5.lds E 0 xk (SS.new vv) N=sL at*;generalize tgt E W xk B=tg at*;have hnd:=fun (k:Nat) (hk:k<6)=>N31.num.nxt (I1 o1 o2 hk);clear hna hnb hX F lw lk lK hvx hn3 JE JF HP Zw hW l2 hN1 hN2;refine a_ (fun t m h' n'=>∃ (k:Nat) (w:Int) (d':Rl→Nat) (C':Rl→Option aj),k≤6∧t=6-k∧(k=0∧w=0∨0<k∧w=tg)∧m.n=148∧m.fF=[]∧m.get 3=U6 xk∧m.get 9=pt n3∧m.get 11=I6 vv∧m.get 14=pt na∧m.get 15=pt nb∧m.get 16=I6 tg∧m.get 18=I6 w∧m.get 19=I6 k∧N11 E sL s5 mV n3 na nb [b0,b1,b2,b3,b4,b5] [f0,f1,f2,f3,f4,f5] d' C' h' n') 6 ?_ ?_
 ·refine⟨0,0,d7,C7,by omega,rfl,.inl ⟨rfl,rfl⟩,?_⟩;simp(disch:=try exact jh) only[go_sem, *]
  first|exact I0|exact⟨rfl,I0⟩ |trace_state
 ·clear I0;rintro t m h' n' ih ⟨k,w,d8,C8,hk,rfl,hw,m1,m2,m3,m4,m5,m6,m7,m8,m9,m10,I⟩;obtain⟨bq',zj⟩:=I.zj;have pT:=I.T.st.at zj;rw[I.zi] at pT;obtain⟨stk,tag,XX,xxk,RR,rrk,M,Bb,Pk,Ii,EV⟩:=I.T.pg;have FA:=I.T.st.at Bb.base;rw[I.Mc] at FA;by_cases hk6:k<6
  ·have e7:(k:Int)<6:=by omega
   have PG:(k:Int)+1=((k+1:Nat):Int):=by omega
   have e9:=hnd k hk6;have hb:=hd2 k hk6;have hL:=aej k hk6;have hwk:=hwF k w hw;have hlk:=hlen k;have hTL:∀ u∈nL E k (A++B),ux E.l u:=fun u hu=>N27 u (eL.1 hu).1;have enF:sfN E W xk (nL E k (A++B))=(nL E k B).headD 0:=by rw[gM];exact ahc (fun u hu=>hA u (eL.1 hu).1) fun u hu=>hB u (eL.1 hu).1
   have ebF:sfB E W vv xk (nL E k (A++B))=(nL E k A).getLastD (-1-vv):=by rw[gM];exact ahg o1 (fun u hu=>⟨hA u (eL.1 hu).1,by have:=(N27 u (by simp[(eL.1 hu).1])).1;omega⟩) fun u hu=>hB u (eL.1 hu).1
   have Tw0:N36 h' (d8 (78,0)) (d8 rM) (d8 rW) E.lb (wB (d8 rL) sL.k) sL.W E.l:=⟨I.T.st.at Bb.vh,I.T.st.at M.mem,I.T.st.at M.words,gT (I.T.fz.kept I.T.st) N31.look,I.T.ua,by have:=N31.hlen;omega,by have:=I.T.la;have:=N31.num.RY;omega⟩;have lb:=arf (v:=vv) (lv:=(k:Int)) I.T.st.wf Tw0 ⟨o1,by omega⟩ e9.2;rw[hsW,hL] at lb;rw[←ebF,←enF] at hb;clear ebF enF Tw0 hL e9 Pk Ii EV;generalize nL E k (A++B)=L at*
   repeat' first|simp(disch:=try exact jh) only[go_sem, *,EA] | (apply xs<;>intro _)<;>try omega|refine fun (_ _:List Nat)=>?_
   refine zc (lb) ?_;rintro y h9 n9 ⟨sl,rfl,hg,kk,ww,ll⟩;clear lb FA pT;obtain⟨d9,C9,N9,x,cap,rfl,hx⟩:=an1 (t:=251) I.T.st hg kk ww ll qi;have I9:=I.mv N9 qi qi qi qi;clear hg kk ww ll N9 M Bb
   repeat' first|simp(disch:=try exact jh) only[go_sem, *] | (apply xs<;>intro _)<;>try omega|refine fun (_ _:List Nat)=>?_
   have dl:L.drop L.length=[]:=List.drop_length;refine a_ (fun t m h' n'=>∃ (i:Nat) (d':Rl→Nat) (C':Rl→Option aj),i≤L.length∧t=i∧m.n=148∧m.fF=[]∧m.get 3=U6 xk∧m.get 9=pt n3∧m.get 11=I6 vv∧m.get 14=pt na∧m.get 15=pt nb∧m.get 16=I6 tg∧m.get 19=I6 k∧m.get 20 = .slice x L.length cap∧m.get 24=I6 ((i:Int)-1)∧m.get 22=I6 (sfB E W vv xk (L.drop i))∧m.get 23=I6 (sfN E W xk (L.drop i))∧m.get 18=I6 (sfW E W xk w (L.drop i))∧N11 E sL s5 mV n3 na nb [b0,b1,b2,b3,b4,b5] [f0,f1,f2,f3,f4,f5] d' C' h' n'∧(0<L.length→d' (251,0)=d9 (251,0)∧C' (251,0)=row (L.map (.int .i64)))) L.length ?_ ?_
   ·refine⟨L.length,d9,C9,Nat.le_refl _,rfl,?_⟩;have q1:sfB E W vv xk (L.drop L.length) = -1-vv:=by rw[dl];rfl
    have q2:sfN E W xk (L.drop L.length)=0:=by rw[dl];rfl
    have q3:sfW E W xk w (L.drop L.length)=w:=by rw[dl];rfl
    have hx2:0<L.length→C9 (251,0)=row (L.map (.int .i64)):=fun q=>(hx q).2;rw[q1,q2,q3];clear ih hx;simp(disch:=try exact jh) only[go_sem, *]
    first|exact⟨I9,hx2⟩ |exact⟨rfl,I9,hx2⟩ |exact hx2 |trace_state
   ·rintro t m h' n' ih2 ⟨i,d2,C2,hi,hti,p1,p2,p3,p4,p5,p6,p7,p8,p9,p10,p11,p12,p13,p14,J,hrow⟩;subst t;have ihh:=ih;clear m1 m2 m3 m4 m5 m6 m7 m8 m9 m10 I9 I zj ih dl;obtain⟨bq2,zj⟩:=J.zj;have pT:=J.T.st.at zj;rw[J.zi] at pT
    rcases Nat.eq_zero_or_pos i with JL |JL
    ·
     subst JL;have e7: ¬ (0:Int) ≤ -1:=by omega
     have q1:(L.drop 0)=L:=rfl;rw[q1] at p12 p13 p14;rw[hwk] at p14;have arw:=J.T.st.at J.aic;have arx:=J.T.st.at J.an0;rw[J.ah9] at arw;rw[J.aid] at arx;simp only[List.map_cons,List.map_nil] at arw arx;obtain⟨zn,mT⟩:=hb;have z1:([I6 b0,I6 b1,I6 b2,I6 b3,I6 b4,I6 b5]:List Value)[k]? = some (I6 (sfB E W vv xk L)):=by
      have:=congrArg (Option.map (Value.int .i64)) zn;rw[←List.getElem?_map] at this;exact this
     have z2:([I6 f0,I6 f1,I6 f2,I6 f3,I6 f4,I6 f5]:List Value)[k]? = some (I6 (sfN E W xk L)):=by
      have:=congrArg (Option.map (Value.int .i64)) mT;rw[←List.getElem?_map] at this;exact this
     clear zn mT hrow hx hwk ih2 hTL;generalize sfB E W vv xk L=x1 at*;generalize sfN E W xk L=x2 at*
     trace_state
     repeat' first|simp(disch:=try exact jh) only[go_sem, *,cJ,cG,cH,cI,Bool.not_true,Bool.not_false] | (apply xs<;>intro _)<;>try omega|refine fun (_ _:List Nat)=>?_
     refine ihh (6-(k+1)) _ _ _ qJ ⟨k+1,tg,d2,C2,by omega,rfl,.inr ⟨Nat.succ_pos _,rfl⟩,?_⟩;clear ihh z1 z2;simp(disch:=try exact jh) only[go_sem, *]
     first|exact J|exact⟨rfl,J⟩ |trace_state
    ·obtain⟨j,rfl⟩:∃ j,i=j+1:=⟨i-1,by omega⟩;have hjL:j<L.length:=by omega
     have e7:(0:Int)≤(j:Int):=by omega
     have e8:(j:Int)<(L.length:Int):=by omega
     rw[show ((j+1:Nat):Int)-1=(j:Int) by omega] at p11;obtain⟨rfl,-⟩:=hx qJ;obtain⟨r1,r2⟩:=hrow qJ;have N16:=J.T.st.at r2;rw[r1] at N16;have hgj:(L.map (Value.int .i64))[j]? = some (I6 L[j]):=by rw[List.getElem?_map,List.getElem?_eq_getElem hjL];rfl
     have hml:(L.map (Value.int .i64)).length=L.length:=List.length_map _;have hT:=hTL L[j] (List.getElem_mem _);have hdj:L.drop j=L[j]::L.drop (j+1):=List.drop_eq_getElem_cons hjL;have v1:sfB E W vv xk (L.drop j)=if uB E W L[j]<xk∧sfB E W vv xk (L.drop (j+1))<0 then L[j] else sfB E W vv xk (L.drop (j+1)):=by rw[hdj];rfl
     have v2:sfN E W xk (L.drop j)=if uB E W L[j]<xk then sfN E W xk (L.drop (j+1)) else L[j]:=by rw[hdj];rfl
     have v3:sfW E W xk w (L.drop j)=if uB E W L[j]=xk then L[j] else sfW E W xk w (L.drop (j+1)):=by rw[hdj];rfl
     obtain⟨stk,tag,XX,xxk,RR,rrk,M,Bb,Pk,Ii,EV⟩:=J.T.pg;have FA:=J.T.st.at Bb.base;rw[J.Mc] at FA;clear hdj Pk Ii EV stk tag;generalize L[j]=u at*;have hsz:sL.W.length=E.sz:=J.T.la;have tb:=fun hh (SS:St hh n' d2 (vl ([(78,0),(0,0),(1,0),(2,0),(300,0),(301,0),(302,0),(303,0),(304,0)]++Ma E.n1) C2))=>aBA SS (M.vl (by simp)) ((pO (by simp)).trans Bb.vh) (J.T.fz.vl _) N31 J.T.le hT hsz J.T.ua;have hkx:vm sL.W (ta E.l u)=uB E W u:=by rw[hsW];rfl
     rw[hkx] at tb;clear hkx;generalize uB E W u=kx at*;generalize sfB E W vv xk (L.drop (j+1))=y1 at*;generalize sfN E W xk (L.drop (j+1))=y2 at*;generalize sfW E W xk w (L.drop (j+1))=y3 at*;clear hwk hb hx hrow hTL
     repeat' first|simp(disch:=try exact jh) only[go_sem, *,EA,cJ,cG,cH,cI,Bool.not_true,Bool.not_false] | (apply xs<;>intro _)<;>try omega | ((with_reducible refine b8 20 ?_);refine dw 148 20 w6_20 (by first | (simp only[go_sem, *];done)|rfl) (by kernel_rfl) (by kernel_rfl) ?_)|refine fun (_ _:List Nat)=>?_
     refine lN ([(78,0),(0,0),(1,0),(2,0),(300,0),(301,0),(302,0),(303,0),(304,0)]++Ma E.n1) J.T.st tb (by simp) (by simp) (by simp only[*]) (by simp only[*]) (by simp only[go_sem, *]) (by simp only[go_sem, *]) ?_;rintro v h4 n4 d4 C0 C4 N4-⟨x1,x2,x3,x4,sv,oc,rfl⟩ rd wr-;have J4:=J.mv N4 qi qi qi qi;have r1:=(N4.dd (251,0) qi).trans r1;have r2:=(N4.cc (251,0) qi).trans r2;have N16:=J4.T.st.at r2;have aBJ:=J4.T.st.lt r2;rw[r1] at N16 aBJ;obtain⟨bq3,zj⟩:=J4.zj;have pT:=J4.T.st.at zj;have aBK:=J4.T.st.lt zj;rw[J4.zi] at pT aBK;have J5:N11 E sL s5 mV n3 na nb [b0,b1,b2,b3,b4,b5] [f0,f1,f2,f3,f4,f5] d4 C4 ((h4.set n4 (row [U6 0,U6 0,U6 0,U6 0,U6 0,.slice none 0 0])).set n4 (row [U6 kx,U6 x1,U6 x2,U6 x3,U6 x4,sv])) (n4+1):=by
      have Wf:=J4.T.st.wf;refine J4.mv (Nz.keep (X:=[]) (Y:=[]) J4.T.st ?_ ?_ (Nat.le_succ _)) (by simp) (by simp) (by simp) (by simp)
      ·repeat refine Kept.set' Wf qJ ?_
       exact Kept.refl _
      ·(repeat refine bQ.set' qJ ?_);first|assumption|exact bQ.mono (by assumption) qJ
     clear tb J M Bb N4 FA J4;by_cases k1:kx<xk
     ·have k3: ¬ kx=xk:=by omega
      have k4: ¬ xk≤kx:=by omega
      by_cases k2:y1<0
      ·rw[if_pos ⟨k1,k2⟩] at v1;rw[if_pos k1] at v2;rw[if_neg k3] at v3
       repeat' first|simp(disch:=try exact jh) only[go_sem, *,cJ,cG,cH,cI,Bool.not_true,Bool.not_false] | (apply xs<;>intro _)<;>try omega|refine fun (_ _:List Nat)=>?_
       refine ih2 j _ _ _ qJ ⟨j,d4,C4,by omega,rfl,?_⟩;rw[v1,v2,v3];clear ih2 ihh N16 pT;simp(disch:=try exact jh) only[go_sem, *]
       first|exact⟨J5,fun _=>⟨r1,r2⟩⟩ |exact⟨rfl,J5,fun _=>⟨r1,r2⟩⟩ |exact fun _=>r2|exact⟨rfl,fun _=>r2⟩ |exact fun _=>trivial |trace_state
      ·rw[if_neg fun q=>k2 q.2] at v1;rw[if_pos k1] at v2;rw[if_neg k3] at v3
       repeat' first|simp(disch:=try exact jh) only[go_sem, *,cJ,cG,cH,cI,Bool.not_true,Bool.not_false] | (apply xs<;>intro _)<;>try omega|refine fun (_ _:List Nat)=>?_
       refine ih2 j _ _ _ qJ ⟨j,d4,C4,by omega,rfl,?_⟩;rw[v1,v2,v3];clear ih2 ihh N16 pT;simp(disch:=try exact jh) only[go_sem, *]
       first|exact⟨J5,fun _=>⟨r1,r2⟩⟩ |exact⟨rfl,J5,fun _=>⟨r1,r2⟩⟩ |exact fun _=>r2|exact⟨rfl,fun _=>r2⟩ |exact fun _=>trivial |trace_state
     ·rw[if_neg fun q=>k1 q.1] at v1;rw[if_neg k1] at v2;have k4:xk≤kx:=by omega
      by_cases k3:kx=xk
      ·rw[if_pos k3] at v3;subst kx;have k5:decide (xk≤xk)=true:=decide_eq_true (Int.le_refl _);have k6:decide (xk<xk)=false:=decide_eq_false (Int.lt_irrefl _);have k7:(xk==xk)=true:=by simp
       repeat' first|simp(disch:=try exact jh) only[go_sem, *,cJ,cG,cH,cI,Bool.not_true,Bool.not_false] | (apply xs<;>intro _)<;>try omega|refine fun (_ _:List Nat)=>?_
       refine ih2 j _ _ _ qJ ⟨j,d4,C4,by omega,rfl,?_⟩;rw[v1,v2,v3];clear ih2 ihh N16 pT;simp(disch:=try exact jh) only[go_sem, *]
       first|exact⟨J5,fun _=>⟨r1,r2⟩⟩ |exact⟨rfl,J5,fun _=>⟨r1,r2⟩⟩ |exact fun _=>r2|exact⟨rfl,fun _=>r2⟩ |exact fun _=>trivial |trace_state
      ·rw[if_neg k3] at v3
       repeat' first|simp(disch:=try exact jh) only[go_sem, *,cJ,cG,cH,cI,Bool.not_true,Bool.not_false] | (apply xs<;>intro _)<;>try omega|refine fun (_ _:List Nat)=>?_
       refine ih2 j _ _ _ qJ ⟨j,d4,C4,by omega,rfl,?_⟩;rw[v1,v2,v3];clear ih2 ihh N16 pT;simp(disch:=try exact jh) only[go_sem, *]
       first|exact⟨J5,fun _=>⟨r1,r2⟩⟩ |exact⟨rfl,J5,fun _=>⟨r1,r2⟩⟩ |exact fun _=>r2|exact⟨rfl,fun _=>r2⟩ |exact fun _=>trivial |trace_state
  ·have e7: ¬ (k:Int)<6:=by omega
   obtain rfl:w=tg:=by omega
   clear ih
   repeat' first|simp(disch:=try exact jh) only[go_sem, *,sJ,cJ,cG,cH,cI,Bool.not_true,Bool.not_false] | (apply xs<;>intro _)<;>try omega|refine fun (_ _:List Nat)=>?_
end
end Go.Proofs.YtofmbmclopgldaaGreat
