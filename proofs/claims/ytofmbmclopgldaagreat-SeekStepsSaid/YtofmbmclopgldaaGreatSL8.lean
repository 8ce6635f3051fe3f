/-
A part.
-/
import Derived.Test.YtofmbmclopgldaaGreatSP2
set_option linter.all false
set_option maxRecDepth 100000
set_option maxHeartbeats 16000000
namespace Go.Proofs.YtofmbmclopgldaaGreat
open Go.Am Go.Proofs.Tryz
theorem tF.agz{E:Ev}(ok:tF E):∃ a0 a1 a2 a3 a4 a5 a6 a7 a8 a9 vJ wu zu zH zI EN EO EP ER ES ET a21 a22 a23 EU a25 a27,E.S2=[a0,a1,a2,a3,a4,a5,a6,a7,a8,a9,vJ,wu,zu,zH,zI,EN,EO,EP,ER,ES,ET,a21,a22,a23,EU,a25,E.hv,a27]:=by
 obtain⟨a,b,c,e,f1,f2,f3,f4,f5,f6,g1,g2,g3,wv,hS⟩:=ok.s2;obtain⟨q0,q1,q2,q3,q4,q5,q6,q7,q8,hP⟩:=ok.num.PL;rw[hP] at hS;exact⟨_,_,_,_,_,_,_,_,_,_,_,_,_,_,_,_,_,_,_,_,_,_,_,_,_,_,_,hS⟩
section
variable {E:Ev} {a b:Sd} {d:Rl→Nat} {C:Rl→Option aj} {h:PT aj} {n:Nat}
theorem Vm(T:Tw E a b d C h n){r lv:Int}(hr : -9223372036854775808≤r∧r≤9223372036854775807):
  cE prog OB 215 [pt (d (108,0)),I6 r,I6 lv] h n fun v h' n'=>v=iU [I6 (Ji E.l b.W r lv),I6 (sS E.l r lv)]∧h'=h∧n'=n:=by
 have g78:=T.st.at T.rf.vh;have n78:=T.st.lt T.rf.vh;obtain⟨⟨wc,m1⟩,m2,m3,m4⟩:=T.rf.mem;have gm1:=T.st.at m1;have gm2:=T.st.at m2;have K:=T.fy.kept T.st;have Wf:=T.fy.wf;have n1n:=T.lz;obtain⟨a0,a1,a2,a3,a4,a5,a6,a7,a8,a9,vJ,wu,zu,zH,zI,EN,EO,EP,ER,ES,ET,a21,a22,a23,EU,a25,a27,vH⟩:=T.ok.agz;obtain⟨hx,hcap,FC,-⟩:=T.ok.hts.len;have gl:=K _ _ T.ok.nX;rw[vH,FC] at gl;have hl0:=T.ok.vo;have hrl:=fun h' hk z f d ops r K m n=>@cw _ _ _ _ h' hl0 z f d ops r K m n hk;have Co:=fun h' hk z L f d ops r K m n lo rd wr fs=>@eT _ _ _ _ h' hl0 z L f d ops r K m n lo rd wr fs hk;have zq:=(T.ok.nx r lv hr.1 hr.2).symm;have hub:=T.ub;have hlb:=T.lb;have hn:=T.ok.num;by_cases hd:Nd E.l E.V r lv
 ·have e:=hn.nxt hd;have hR:=hn.naR hd;have hlt:na E.l r lv<b.W.length:=by rw[hlb];exact hR.2
  have hw:=hub b.W[na E.l r lv] (List.getElem_mem _);have hat:Ji E.l b.W r lv=if b.W[na E.l r lv]≤E.l.H.length then b.W[na E.l r lv] else 0:=by
   unfold Ji;rw[e.1,e.2,if_pos rfl,iJ hlt]
  have Cz:sZ E.Wt r lv=iU [I6 (na E.l r lv),I6 0]:=by rw[zq];unfold j5;rw[e.1,e.2]
  have hg:=dP hlt;rw[hat,e.2];have Pq:(E.l.H.length:Int)≤20000:=by have:=hn.p7;have:=hn.p7';have:=T.ok.e6;omega
  have rP:IntKind.u64.wrap (E.l.H.length:Int)=E.l.H.length:=wrap_u64 qJ qJ;clear zq hub hl0 hat e;generalize b.W[na E.l r lv]=w at*;refine ay (N:=49) func215 rfl rfl fun z hP hO hro hN hQ=>?_;by_cases hc:w≤E.l.H.length
  ·rw[if_pos hc] at hQ;have hww:IntKind.i64.wrap w=w:=wrap_i64 qJ qJ
   repeat' first|simp(disch:=try exact yj) only[go_sem, *,dB,Cz,rP,hww] | (apply xs<;>intro _)<;>try omega
  ·rw[if_neg hc] at hQ
   repeat' first|simp(disch:=try exact yj) only[go_sem, *,dB,Cz,rP] | (apply xs<;>intro _)<;>try omega
 ·have e:=hn.af0 hd hr.1;have hat:Ji E.l b.W r lv=0:=by
   unfold Ji;rw[e.2,if_neg qi]
  have Cz:sZ E.Wt r lv=iU [I6 0,I6 3]:=by rw[zq];unfold j5;rw[e.1,e.2]
  rw[hat,e.2];clear zq hub hl0 hat e;refine ay (N:=49) func215 rfl rfl fun z hP hO hro hN hQ=>?_
  repeat' first|simp(disch:=try exact yj) only[go_sem, *,dB,Cz] | (apply xs<;>intro _)<;>try omega
end
end Go.Proofs.YtofmbmclopgldaaGreat
namespace Go.Proofs.YtofmbmclopgldaaGreat
open Go.Am Go.Proofs.Tryz
abbrev xL:List Rl:=[(125,0),(126,0)]
section
variable {E:Ev} {a b:Sd} {d:Rl→Nat} {C:Rl→Option aj} {h:PT aj} {n:Nat}
theorem Qt(T:Tw E a b d C h n){v lv:Int}(hv:0≤v∧v<E.V)(hlv:0≤lv∧lv<6):
  cE prog OB 148 [pt (d (108,0)),I6 v,I6 lv] h n fun r h' n'=>∃ d' C',Nz n d C xL xL d' C' h' n'∧r=iU [mkV (d' (125,0)) (wE E.l b.W v lv),I6 0]∧(0<(wE E.l b.W v lv).length→C' (125,0)=row ((wE E.l b.W v lv).map (.int .i64))):=by
 have g78:=T.st.at T.rf.vh;have n78:=T.st.lt T.rf.vh;have K:=T.fy.kept T.st;have Wf:=T.fy.wf;have n1n:=T.lz;obtain⟨a0,a1,a2,a3,a4,a5,a6,a7,a8,a9,vJ,wu,zu,zH,zI,EN,EO,EP,ER,ES,ET,a21,a22,a23,EU,a25,a27,vH⟩:=T.ok.agz;obtain⟨hx,hcap,FC,hHx⟩:=T.ok.hts.len;have gl:=K _ _ T.ok.nX;rw[vH,FC] at gl;have hl0:=T.ok.vo;have hrl:=fun h' hk z f d ops r K m n=>@cw _ _ _ _ h' hl0 z f d ops r K m n hk;have Co:=fun h' hk z L f d ops r K m n lo rd wr fs=>@eT _ _ _ _ h' hl0 z L f d ops r K m n lo rd wr fs hk;have hn:=T.ok.num;have hV2:=hn.V2;have Pq:(E.l.H.length:Int)≤2000:=by have:=hn.p7;have:=hn.p7';have:=T.ok.e6;omega
 have hd:Nd E.l E.V (-1-v) lv:=⟨hlv.1,.inl ⟨by omega,by omega,hlv.2⟩⟩;have e:=hn.nxt hd;have zq:=(T.ok.nx (-1-v) lv qJ qJ).symm;have Cz:sZ E.Wt (-1-v) lv=iU [I6 (na E.l (-1-v) lv),I6 0]:=by rw[zq];unfold j5;rw[e.1,e.2]
 obtain⟨v1,v2⟩:=hv;obtain⟨hl1,zo⟩:=hlv;have hbz:Value.bool false::rep [Value.bool false] E.l.H.length=(List.replicate (E.l.H.length+1) false).map Value.bool:=by rw[iE,List.replicate_succ,List.map_cons,List.map_replicate]
 have Lb:(E.l.H.length+1).ble 1048576=true:=Nat.ble_eq_true_of_le qJ;have arX:((E.l.H.length:Int)+1).toNat=E.l.H.length+1:=by omega
 clear zq e hl0 hd;refine ay (N:=85) func148 rfl rfl fun z hP hO hro hN hQ=>?_
 repeat' first|simp(disch:=try exact yj) only[go_sem, *,dB,Cz] | (apply xs<;>intro _)<;>try omega
 obtain⟨d1,C1,N1,arY,arZ⟩:∃ d1 C1,Nz n d C xL xL d1 C1 (h.set n (some (.cells (PT.ofList .leaf 0 (List.map Value.bool (List.replicate (E.l.H.length+1) false))) false))) (n+1)∧d1 (126,0)=n∧C1 (126,0)=row ((List.replicate (E.l.H.length+1) false).map .bool):=
  ⟨_,_,Nz.new qi (Nat.le_refl _) (Nat.le_succ _) (T.st.new (126,0) _ (Nat.le_refl _) (Nat.lt_succ_self _)),aq,aq⟩
 refine a_ (fun t m h' n'=>∃ (r:Int) (S:List Bool) (ws:List Int) (d':Rl→Nat) (C':Rl→Option aj),(-64≤r∧r≤2000)∧S.length=E.l.H.length+1∧S.count false=t∧ws.length+t=E.l.H.length+1∧ws++chain E.l b.W lv t S (Ji E.l b.W r lv)=wE E.l b.W v lv∧m.n=85∧m.fF=[]∧m.get 0=pt (d (108,0))∧m.get 2=I6 lv∧m.get 10=mkV (d' (125,0)) ws∧m.get 11 = .slice (some ⟨d' (126,0),0,none⟩) (E.l.H.length+1) (E.l.H.length+1)∧m.get 12=I6 r∧Nz n d C xL xL d' C' h' n'∧C' (126,0)=row (S.map .bool)∧(0<ws.length→C' (125,0)=row (ws.map (.int .i64)))) (E.l.H.length+1) ?_ ?_
 ·clear hrl Co;refine⟨-1-v,List.replicate (E.l.H.length+1) false,[],d1,C1,by omega,List.length_replicate,by simp,Nat.zero_add _,rfl,?_⟩;simp(disch:=try exact yj) only[go_sem, *];exact⟨rfl,fun q=>q.elim⟩
 ·clear N1 arZ arY Cz hbz Lb arX g78 gl;rintro t m h' n' ih ⟨r,S,ws,d',C',hr,Ej,hSc,hwt,hch,m0,m1,m2,m3,m4,m5,m6,N,q1,q2⟩;have T':=T.own N qi qi;have af:=Vm T' (r:=r) (lv:=lv) qJ;have agA:=N.dd (108,0) qi;rw[agA] at af;have g78:=T'.st.at T'.rf.vh;rw[agA] at g78;have gl:=(T'.fy.kept T'.st) _ _ T.ok.nX;rw[vH,FC] at gl;have aGo:=T'.st.at q1;have aGp:=T'.st.lt q1;obtain⟨w1,w2⟩:=Lr (l:=E.l) (W:=b.W) (r:=r) (lv:=lv) T.ub;generalize Ji E.l b.W r lv=w at*;obtain⟨wn,rfl⟩:∃ wn:Nat,w=wn:=⟨w.toNat,by omega⟩;have hwn:wn<S.length:=by omega
  have hgD:S.getD (wn:Int).toNat true=S[wn]:=by rw[Int.toNat_natCast];simp[List.getD,hwn]
  have hSm:(S.map Value.bool)[wn]? = some (.bool S[wn]):=by rw[List.getElem?_map,List.getElem?_eq_getElem hwn];rfl
  have aGq:(S.map Value.bool).length=E.l.H.length+1:=by rw[List.length_map];exact Ej
  repeat' first|simp(disch:=try exact yj) only[go_sem, *] | (apply xs<;>intro _)<;>try omega
  refine jg (af) ?_;rintro x h3 n3 ⟨rfl,rfl,rfl⟩;clear af;by_cases c1:0<(wn:Int)
  ·have c1':wn<E.l.H.length+1:=by omega
   cases hb:S[wn] with
   |true=>
    have oK:chain E.l b.W lv t S wn=[]:=by
     cases t with
     |zero=>rfl
     |succ t=>rw[chain,if_neg];rw[hgD,hb];simp
    rw[oK,List.append_nil] at hch;subst hch;rw[hb] at hSm;clear ih hgD
    repeat' first|simp(disch:=try exact yj) only[go_sem, *] | (apply xs<;>intro _)<;>try omega
    exact⟨d',C',N,rfl,q2⟩
   |false=>
    rw[hb] at hSm hgD;have hco:∃ t',t=t'+1∧(S.set wn true).count false=t':=by
     have:=count_set (S:=S) (i:=wn) (by rw[List.getElem?_eq_getElem hwn,hb]);exact⟨(S.set wn true).count false,by omega,rfl⟩
    obtain⟨t',rfl,hco⟩:=hco;obtain⟨wm,rfl⟩:∃ wm,wn=wm+1:=⟨wn-1,by omega⟩;obtain⟨H_,hof,hsp,Lh,aGr,L5,hgH,u_⟩:=hHx wm qJ;have gH:=(T'.fy.kept T'.st) _ _ hgH;have hcs:((wm+1:Nat):Int)-1=(wm:Int):=by omega
    have hht:qx E.l.H ((wm+1:Nat):Int)=E.l.H.getD wm 0:=by
     unfold qx;rw[if_pos qJ,hcs,Int.toNat_natCast]
    rw[L5] at gl;by_cases c2:lv<qx E.l.H ((wm+1:Nat):Int)
    ·rw[chain,if_pos ⟨c1,hgD,c2⟩,Int.toNat_natCast] at hch;rw[hht] at c2;clear hgD hht;have j8:(S.map Value.bool).set (wm+1) (.bool true)=(S.set (wm+1) true).map .bool:=by rw[List.map_set]
     have hsn:∀ g,mkV g (ws++[((wm+1:Nat):Int)]) = .slice (some ⟨g,0,none⟩) (ws.length+1) (aA+1):=fun g=>tI;by_cases c0:ws.length=0
     ·obtain rfl:ws=[]:=List.length_eq_zero_iff.1 c0;rw[tH] at m4
      repeat' first|simp(disch:=try exact yj) only[go_sem, *] | (apply xs<;>intro _)<;>try omega
      refine ih t' _ _ _ (Nat.lt_succ_self _) ⟨((wm+1:Nat):Int),S.set (wm+1) true,[((wm+1:Nat):Int)],upd d' (125,0) (n3+1),upd (upd C' (126,0) (row ((S.set (wm+1) true).map .bool))) (125,0) (row [I6 ((wm+1:Nat):Int)]),by omega,by rw[List.length_set];exact Ej,hco,by simp at hwt ⊢;omega,hch,?_⟩;simp(disch:=try exact yj) only[go_sem, *];exact⟨by rw[aq];rfl,by rw[au qi],N.trans ((Nz.set qi q1 (N.st.set (126,0) _ q1 rfl)).trans (Nz.new qi qJ qJ (((N.st.set (126,0) _ q1 rfl).junk (Nat.le_refl _) (Nat.lt_succ_self _)).new (125,0) _ (Nat.le_refl _) (Nat.lt_succ_self _)))),(au qi).trans aq,fun _=>aq⟩
     ·have hpos:0<ws.length:=by omega
      have q3:=q2 hpos;have agB:=T'.st.at q3;have aGt:=T'.st.lt q3;have d12:=T'.st.df q1 q3 qi;rw[fS hpos] at m4
      repeat' first|simp(disch:=try exact yj) only[go_sem, *] | (apply xs<;>intro _)<;>try omega
      refine ih t' _ _ _ (Nat.lt_succ_self _) ⟨((wm+1:Nat):Int),S.set (wm+1) true,ws++[((wm+1:Nat):Int)],upd d' (125,0) (n3+1),upd (upd C' (126,0) (row ((S.set (wm+1) true).map .bool))) (125,0) (row (ws.map (.int .i64)++[I6 ((wm+1:Nat):Int)])),by omega,by rw[List.length_set];exact Ej,hco,by simp at hwt ⊢;omega,by rw[List.append_assoc];exact hch,?_⟩;simp(disch:=try exact yj) only[go_sem, *];exact⟨by rw[aq],by rw[au qi],N.trans ((Nz.set qi q1 (N.st.set (126,0) _ q1 rfl)).trans (Nz.new qi qJ qJ (((((N.st.set (126,0) _ q1 rfl).junk (Nat.le_refl _) (Nat.lt_succ_self _)).kill (125,0) ((au qi).trans q3) rfl).new (125,0) _ (Nat.le_refl _) (Nat.lt_succ_self _)).eq (by rw[gn]) rfl))),(au qi).trans aq,fun _=>by rw[List.map_append];exact aq⟩
    ·have oK:chain E.l b.W lv (t'+1) S ((wm+1:Nat):Int)=[]:=by rw[chain,if_neg fun q=>c2 q.2.2]
     rw[oK,List.append_nil] at hch;subst hch;rw[hht] at c2;clear ih hgD hht
     repeat' first|simp(disch:=try exact yj) only[go_sem, *] | (apply xs<;>intro _)<;>try omega
     exact⟨d',C',N,rfl,q2⟩
  ·have hz:wn=0:=by omega
   subst hz;have oK:chain E.l b.W lv t S ((0:Nat):Int)=[]:=by
    cases t with
    |zero=>rfl
    |succ t=>rw[chain,if_neg];rintro ⟨q,-⟩;exact absurd q qi
   rw[oK,List.append_nil] at hch;subst hch;clear ih hgD
   repeat' first|simp(disch:=try exact yj) only[go_sem, *] | (apply xs<;>intro _)<;>try omega
   exact⟨d',C',N,rfl,q2⟩
end
end Go.Proofs.YtofmbmclopgldaaGreat
namespace Go.Proofs.YtofmbmclopgldaaGreat
open Go.Am Go.Proofs.Tryz
theorem AW{l:dg}{W:List Int}{lv:Int}:∀ {f:Nat} {S:List Bool} {r t:Int},S.length=l.H.length+1→t∈chain l W lv f S r→ux l t
 |0,S,r,t,_,h=>by simp[chain] at h
 |f+1,S,r,t,hS,h=>by
  rw[chain] at h;split at h
  ·rename_i hc
   rcases List.mem_cons.1 h with rfl |h
   ·refine⟨by omega,?_⟩;have h2:=hc.2.1;simp only[List.getD] at h2;cases hg:S[t.toNat]? with
    |none=>rw[hg] at h2;simp at h2
    |some x=>have:=(List.getElem?_eq_some_iff.1 hg).1;omega
   ·exact AW (by rw[List.length_set];exact hS) h
  ·simp at h
theorem CA{l:dg}{W:List Int}{v lv t:Int}(h:t∈wE l W v lv):ux l t:=AW List.length_replicate h
theorem AX{l:dg}{W:List Int}{lv:Int}:∀ {f:Nat} {S:List Bool} {r:Int},(chain l W lv f S r).length≤f
 |0,S,r=>by simp[chain]
 |f+1,S,r=>by
  rw[chain];split
  ·have:=@AX l W lv f (S.set r.toNat true) (Ji l W r lv);simp only[List.length_cons];omega
  ·simp
theorem tF.hlen{E:Ev}(ok:tF E):(E.l.H.length:Int)≤2000:=by have:=ok.num.p7;have:=ok.num.p7';have:=ok.e6;omega
theorem Jr{E:Ev}(ok:tF E){W:List Int}{v lv:Int}:(wE E.l W v lv).length≤2001:=by
 have:=@AX E.l W lv (E.l.H.length+1) (List.replicate (E.l.H.length+1) false) (Ji E.l W (-1-v) lv);have:=ok.hlen;unfold wE;omega
section
variable {E:Ev} {a b:Sd} {d:Rl→Nat} {C:Rl→Option aj} {h:PT aj} {n:Nat}
theorem Tw.dom(T:Tw E a b d C h n):(td (pt (d qB))).look h=some (E.kd,E.dn,E.xs):=by
 obtain⟨pv,vv,qb⟩:=T.rf.base;obtain⟨a0,b0,c0,e0,f1,f2,f3,f4,f5,f6,g1,g2,g3,wv,hS⟩:=T.ok.s2;have K:=T.fy.kept T.st;have gl:=K _ _ T.ok.nX;rw[hS] at gl;exact PY (T.st.at qb) rfl gl rfl rfl rfl (T.ok.Cg.keep K) (uu (by have:=ur T.ok.dom;omega) fun x hx=>(T.ok.pos x hx).1)
theorem Ev.zL(ok:tF E){t:Int}(hT:ux E.l t):Go.Proofs.YtofmbmclopgldaaGreat.zL E.Wt t=(ta E.l t:Int):=by
 have Lz:=ok.wd t 0;have hw0:=ok.num.wrd hT (w:=0) qi;unfold og yR at Lz;rw[if_neg qJ,hw0.1,hw0.2] at Lz;unfold jq at Lz;injection Lz with Lz
 injection Lz with Lz
 simp only[List.cons.injEq,Value.int.injEq,true_and,and_true] at Lz;unfold Go.Proofs.YtofmbmclopgldaaGreat.zL;omega
def Ev.val(E:Ev)(key:Int):Int:=Je E.kd E.dn E.xs key
theorem Ev.AY(ok:tF E){key:Int}(h0:0≤key):0≤E.val key∧E.val key<E.V:=by
 rw[ok.cnt];exact Ln ok.dom h0
def uB(E:Ev)(W:List Int)(t:Int):Int:=vm W (ta E.l t)
abbrev xH:List Rl:=[(90,0),(125,0),(126,0)]
theorem hasB(T:Tw E a b d C h n){key:Int}(hk:0≤key∧key<18446744073709551616):
  cE prog OB 74 [two d,U6 key] h n fun r h' n'=>∃ d' C',Nz n d C xH xH d' C' h' n'∧r = .bool ((wE E.l b.W (E.val key) 0).any fun t=>decide (uB E b.W t=key)):=by
 obtain⟨pv,vv,qb⟩:=T.rf.base;have Kr:=Ev.AY T.ok hk.1;obtain⟨k1,k2⟩:=hk;refine ay (N:=34) func74 rfl rfl fun z hP hO hro hN hQ=>?_;obtain⟨d1,C1,N1,HJ,FB⟩:∃ d1 C1,Nz n d C [(90,0)] [(90,0)] d1 C1 (h.set n (some (.cells (PT.ofList .leaf 0 [pt (d (70,0)),pt (d qB)]) false))) (n+1)∧d1 (90,0)=n∧C1 (90,0)=row [pt (d (70,0)),pt (d qB)]:=
  ⟨_,_,Nz.new qi (Nat.le_refl _) (Nat.le_succ _) (T.st.new (90,0) _ (Nat.le_refl _) (Nat.lt_succ_self _)),aq,aq⟩
 have T1:=T.own N1 qi qi;have uz:=T1.st.at ((N1.cc qB qi).trans qb);rw[N1.dd qB qi] at uz;have Cw:=T1.st.at FB;rw[HJ] at Cw;have hdl:=T1.dom;rw[N1.dd qB qi] at hdl;have JN:=fun z L f d ops r K m n lo rd wr fs=>@eT _ _ _ _ _ hdl z L f d ops r K m n lo rd wr fs (fun _ _ q=>q);have rl:=Qt T1 (v:=Je E.kd E.dn E.xs key) (lv:=0) Kr qi;rw[N1.dd (108,0) qi] at rl;have hok:=T.ok.dom
 repeat' first|simp(disch:=try exact yj) only[go_sem, *] | (apply xs<;>intro _)<;>try omega
 generalize h.set n _=h1 at*
 repeat' first|simp(disch:=try exact yj) only[go_sem, *,rF] | (apply xs<;>intro _)<;>try omega | ((with_reducible refine b8 1 ?_);refine dw 34 1 aoD (by first | (simp only[go_sem, *];done)|rfl) (by kernel_rfl) (by kernel_rfl) ?_)
 refine jg (rl) ?_;rintro x h2 n2 ⟨d2,C2,N2,rfl,hl⟩;intro rd1 wr1;clear rl JN hdl Cw uz Kr;have hmem:∀ t∈wE E.l b.W (E.val key) 0,ux E.l t:=fun t ht=>CA ht;have N:=(N1.sub (X':=xH) (Y':=xH) (by simp) (by simp)).trans (N2.sub (by simp) (by simp));have T2:=T1.own N2 qi qi;have aao:=(N2.cc (90,0) qi).trans FB;have Cw:=T2.st.at aao;rw[N2.dd (90,0) qi,HJ] at Cw;have HK:=(N.cc qB qi).trans qb;have uz:=T2.st.at HK;rw[N.dd qB qi] at uz;change (0<(wE E.l b.W (E.val key) 0).length→_) at hl;rw[show wE E.l b.W (Je E.kd E.dn E.xs key) 0=wE E.l b.W (E.val key) 0 from rfl] at*;have rP:=Jr T.ok (W:=b.W) (v:=E.val key) (lv:=0);generalize wE E.l b.W (E.val key) 0=ws at*
 repeat' first|simp(disch:=try exact yj) only[go_sem, *] | (apply xs<;>intro _)<;>try omega
 obtain⟨x,cap,hx,hxs⟩:∃ x cap,mkV (d2 (125,0)) ws = .slice x ws.length cap∧(0<ws.length→x=some ⟨d2 (125,0),0,none⟩):=by
  cases ws with
  |nil=>exact⟨none,0,rfl,fun q=>absurd q (by simp)⟩
  |cons t ts=>exact⟨_,_,fS (by simp),fun _=>rfl⟩
 rw[hx];obtain⟨⟨wc,m1⟩,m2,-,-⟩:=T2.rf.mem;have gm1:=T2.st.at m1;have gm2:=T2.st.at m2;rw[N.dd qM qi] at gm1;have zo:=gT (T2.fy.kept T2.st) T.ok.vo;have Co:=fun z L f d ops r K m n lo rd wr fs=>@eT _ _ _ _ _ zo z L f d ops r K m n lo rd wr fs (fun _ _ q=>q);refine a_ (fun t m h' n'=>∃ i:Nat,i≤ws.length∧t=ws.length-i∧(ws.take i).any (fun t=>decide (uB E b.W t=key))=false∧m.n=34∧m.fF=[]∧m.get 1=U6 key∧m.get 2=pt n∧m.get 5 = .slice x ws.length cap∧m.get 7=I6 i∧h'=h2∧n'=n2) ws.length ?_ ?_
 ·refine⟨0,by omega,by omega,by simp,?_⟩;clear Co;simp(disch:=try exact yj) only[go_sem, *]
 ·rintro t m h' n' ih ⟨i,hi,rfl,hall,p1,p2,p3,p4,p5,p6,rfl,rfl⟩;by_cases hlt:i<ws.length
  ·have e7:(i:Int)<ws.length:=by omega
   have hpos:0<ws.length:=by omega
   have agB:=T2.st.at (hl hpos);obtain rfl:=hxs hpos;have hT:=hmem ws[i] (List.getElem_mem _);have Mb:=T.ok.num.vh hT;have hka:=Ev.zL T.ok hT;have pH:ta E.l ws[i]<b.W.length:=by rw[T.lb];omega
   have hdc:decide ((0:Int)≤(ta E.l ws[i]:Int)∧(ta E.l ws[i]:Int)<(b.W.length:Int))=true:=decide_eq_true ⟨by omega,by omega⟩;have hg:=dP pH;have hgi:(ws.map (Value.int .i64))[i]? = some (I6 ws[i]):=by rw[List.getElem?_map,List.getElem?_eq_getElem hlt];rfl
   have hkt:uB E b.W ws[i]=b.W[ta E.l ws[i]]:=iJ pH;have E5:ws.take (i+1)=ws.take i++[ws[i]]:=by rw[List.take_succ_eq_append_getElem hlt]
   have hmi:ws[i]∈ws:=List.getElem_mem _;have hml:(ws.map (Value.int .i64)).length=ws.length:=List.length_map _;generalize b.W[ta E.l ws[i]]=kx at*;generalize ws[i]=w at*;clear Mb;by_cases hc:kx=key
   ·have XU:(ws.any fun t=>decide (uB E b.W t=key))=true:=List.any_eq_true.2 ⟨w,hmi,by rw[hkt,hc];simp⟩;rw[XU] at hQ;clear ih
    repeat' first|simp(disch:=try exact yj) only[go_sem, *,nV] | (apply xs<;>intro _)<;>try omega | ((with_reducible refine b8 5 ?_);refine dw 34 5 ae9 (by first | (simp only[go_sem, *];done)|rfl) (by kernel_rfl) (by kernel_rfl) ?_)
    exact⟨d2,C2,N⟩
   ·have agC:(ws.take (i+1)).any (fun t=>decide (uB E b.W t=key))=false:=by
     rw[E5,List.any_append,hall];simp[hkt,hc]
    clear hall E5
    repeat' first|simp(disch:=try exact yj) only[go_sem, *,nV] | (apply xs<;>intro _)<;>try omega | ((with_reducible refine b8 5 ?_);refine dw 34 5 ae9 (by first | (simp only[go_sem, *];done)|rfl) (by kernel_rfl) (by kernel_rfl) ?_)
    refine ih _ _ _ _ ?_ ⟨i+1,by omega,rfl,agC,?_⟩
    ·omega
    ·clear Co;simp(disch:=try exact yj) only[go_sem, *];rfl
  ·obtain rfl:i=ws.length:=by omega
   rw[List.take_length] at hall;rw[hall] at hQ;clear ih
   repeat' first|simp(disch:=try exact yj) only[go_sem, *] | (apply xs<;>intro _)<;>try omega
   exact⟨d2,C2,N⟩
end
end Go.Proofs.YtofmbmclopgldaaGreat
namespace Go.Proofs.YtofmbmclopgldaaGreat
open Go.Am Go.Proofs.Tryz
def LA(E:Ev)(W:List Int)(v key:Int)(ws:List Int):Int:=ws.foldl (fun r t=>if uB E W t<key then t else r) (-1-v)
theorem Qu{E:Ev}{W:List Int}{v key:Int}{ws:List Int}{t:Int}:LA E W v key (ws++[t])=if uB E W t<key then t else LA E W v key ws:=by
 unfold LA;rw[List.foldl_append];rfl
section
variable {E:Ev} {a b:Sd} {d:Rl→Nat} {C:Rl→Option aj} {h:PT aj} {n:Nat}
theorem ar0(T:Tw E a b d C h n){v lv key:Int}(hv:0≤v∧v<E.V)(hlv:0≤lv∧lv<6)(hk:0≤key∧key<18446744073709551616):
  cE prog OB 159 [two d,I6 v,I6 lv,U6 key] h n fun r h' n'=>∃ d' C',Nz n d C xH xH d' C' h' n'∧r=I6 (LA E b.W v key (wE E.l b.W v lv)):=by
 obtain⟨pv,vv,qb⟩:=T.rf.base;have hV2:=T.ok.num.V2;obtain⟨k1,k2⟩:=hk;refine ay (N:=45) func159 rfl rfl fun z hP hO hro hN hQ=>?_;obtain⟨d1,C1,N1,HJ,FB⟩:∃ d1 C1,Nz n d C [(90,0)] [(90,0)] d1 C1 (h.set n (some (.cells (PT.ofList .leaf 0 [pt (d (70,0)),pt (d qB)]) false))) (n+1)∧d1 (90,0)=n∧C1 (90,0)=row [pt (d (70,0)),pt (d qB)]:=
  ⟨_,_,Nz.new qi (Nat.le_refl _) (Nat.le_succ _) (T.st.new (90,0) _ (Nat.le_refl _) (Nat.lt_succ_self _)),aq,aq⟩
 have T1:=T.own N1 qi qi;have uz:=T1.st.at ((N1.cc qB qi).trans qb);rw[N1.dd qB qi] at uz;have Cw:=T1.st.at FB;rw[HJ] at Cw;have rl:=Qt T1 (v:=v) (lv:=lv) hv hlv;rw[N1.dd (108,0) qi] at rl;obtain⟨v1,v2⟩:=hv
 repeat' first|simp(disch:=try exact yj) only[go_sem, *] | (apply xs<;>intro _)<;>try omega
 generalize h.set n _=h1 at*
 repeat' first|simp(disch:=try exact yj) only[go_sem, *] | (apply xs<;>intro _)<;>try omega
 refine jg (rl) ?_;rintro x h2 n2 ⟨d2,C2,N2,rfl,hl⟩;clear rl Cw uz;have hmem:∀ t∈wE E.l b.W v lv,ux E.l t:=fun t ht=>CA ht;have N:=(N1.sub (X':=xH) (Y':=xH) (by simp) (by simp)).trans (N2.sub (by simp) (by simp));have T2:=T1.own N2 qi qi;have aao:=(N2.cc (90,0) qi).trans FB;have Cw:=T2.st.at aao;rw[N2.dd (90,0) qi,HJ] at Cw;have HK:=(N.cc qB qi).trans qb;have uz:=T2.st.at HK;rw[N.dd qB qi] at uz;have rP:=Jr T.ok (W:=b.W) (v:=v) (lv:=lv);generalize wE E.l b.W v lv=ws at*
 repeat' first|simp(disch:=try exact yj) only[go_sem, *] | (apply xs<;>intro _)<;>try omega
 obtain⟨x,cap,hx,hxs⟩:∃ x cap,mkV (d2 (125,0)) ws = .slice x ws.length cap∧(0<ws.length→x=some ⟨d2 (125,0),0,none⟩):=by
  cases ws with
  |nil=>exact⟨none,0,rfl,fun q=>absurd q (by simp)⟩
  |cons t ts=>exact⟨_,_,fS (by simp),fun _=>rfl⟩
 rw[hx];obtain⟨⟨wc,m1⟩,m2,-,-⟩:=T2.rf.mem;have gm1:=T2.st.at m1;have gm2:=T2.st.at m2;rw[N.dd qM qi] at gm1;have zo:=gT (T2.fy.kept T2.st) T.ok.vo;have Co:=fun z L f d ops r K m n lo rd wr fs=>@eT _ _ _ _ _ zo z L f d ops r K m n lo rd wr fs (fun _ _ q=>q);refine a_ (fun t m h' n'=>∃ i:Nat,i≤ws.length∧t=ws.length-i∧m.n=45∧m.fF=[]∧m.get 3=U6 key∧m.get 4=pt n∧m.get 10 = .slice x ws.length cap∧m.get 9=I6 (LA E b.W v key (ws.take i))∧m.get 12=I6 i∧h'=h2∧n'=n2) ws.length ?_ ?_
 ·refine⟨0,by omega,by omega,?_⟩;clear Co;simp(disch:=try exact yj) only[go_sem, *];rfl
 ·rintro t m h' n' ih ⟨i,hi,rfl,p1,p2,p3,p4,p5,p7,p6,rfl,rfl⟩;by_cases hlt:i<ws.length
  ·have e7:(i:Int)<ws.length:=by omega
   have hpos:0<ws.length:=by omega
   have agB:=T2.st.at (hl hpos);obtain rfl:=hxs hpos;have hT:=hmem ws[i] (List.getElem_mem _);have Mb:=T.ok.num.vh hT;have hka:=Ev.zL T.ok hT;have pH:ta E.l ws[i]<b.W.length:=by rw[T.lb];omega
   have hdc:decide ((0:Int)≤(ta E.l ws[i]:Int)∧(ta E.l ws[i]:Int)<(b.W.length:Int))=true:=decide_eq_true ⟨by omega,by omega⟩;have hg:=dP pH;have hgi:(ws.map (Value.int .i64))[i]? = some (I6 ws[i]):=by rw[List.getElem?_map,List.getElem?_eq_getElem hlt];rfl
   have hkt:uB E b.W ws[i]=b.W[ta E.l ws[i]]:=iJ pH;have E5:ws.take (i+1)=ws.take i++[ws[i]]:=by rw[List.take_succ_eq_append_getElem hlt]
   have hmi:ws[i]∈ws:=List.getElem_mem _;have hml:(ws.map (Value.int .i64)).length=ws.length:=List.length_map _;generalize b.W[ta E.l ws[i]]=kx at*;generalize ws[i]=w at*;clear Mb;have mT:LA E b.W v key (ws.take (i+1))=if kx<key then w else LA E b.W v key (ws.take i):=by rw[E5,Qu,hkt]
   clear E5;generalize LA E b.W v key (ws.take i)=r0 at*;by_cases hc:kx<key
   ·rw[if_pos hc] at mT
    repeat' first|simp(disch:=try exact yj) only[go_sem, *,nV] | (apply xs<;>intro _)<;>try omega | ((with_reducible refine b8 6 ?_);refine dw 45 6 adh (by first | (simp only[go_sem, *];done)|rfl) (by kernel_rfl) (by kernel_rfl) ?_)
    refine ih _ _ _ _ ?_ ⟨i+1,by omega,rfl,?_⟩
    ·omega
    ·clear Co;simp(disch:=try exact yj) only[go_sem, *]
     try rfl
   ·rw[if_neg hc] at mT
    repeat' first|simp(disch:=try exact yj) only[go_sem, *,nV] | (apply xs<;>intro _)<;>try omega | ((with_reducible refine b8 6 ?_);refine dw 45 6 adh (by first | (simp only[go_sem, *];done)|rfl) (by kernel_rfl) (by kernel_rfl) ?_)
    refine ih _ _ _ _ ?_ ⟨i+1,by omega,rfl,?_⟩
    ·omega
    ·clear Co;simp(disch:=try exact yj) only[go_sem, *]
     try rfl
  ·obtain rfl:i=ws.length:=by omega
   rw[List.take_length] at p7;clear ih
   repeat' first|simp(disch:=try exact yj) only[go_sem, *] | (apply xs<;>intro _)<;>try omega
   exact⟨d2,C2,N⟩
end
end Go.Proofs.YtofmbmclopgldaaGreat
namespace Go.Proofs.YtofmbmclopgldaaGreat
open Go.Am Go.Proofs.Tryz
def Sd.lk(a:Sd)(t:Nat):Sd:=⟨a.W,a.L,a.k,a.K.set t 2⟩
theorem Rf.link{E:Ev}{W:List Int}{L:List Value}{k t:Nat}{K:List Int}{d:Rl→Nat}{C:Rl→Option aj}(R:Rf E W L k K d C)(hK:K[t]? = some 1):Rf E W L k (K.set t 2) d (upd C (109,0) (row ((EM (K.set t 2)).map (.int .i64)))):=by
 obtain⟨m0,⟨pv,vv,m1⟩,m2,m3,m4,m5,m6,m7,m8,m9⟩:=R;have hl:(K.set t 2).length=K.length:=List.length_set;have h1:CT (K.set t 2)=CT K:=by
  unfold CT;rw[List.map_set];exact tG (by rw[List.getElem?_map,hK];rfl)
 have h2:Lt (K.set t 2)=Lt K:=by
  unfold Lt;rw[List.map_set];exact tG (by rw[List.getElem?_map,hK];rfl)
 refine⟨m0.of fun a ha hb=>⟨rfl,au qJ⟩,⟨pv,vv,?_⟩,?_,?_,?_,?_,?_,?_,?_,by rw[hl];exact m9⟩
 ·rw[hl,au qi];exact m1
 ·rw[hl,au qi];exact m2
 ·rw[h1,au qi];exact m3
 ·rw[hl,au qi];exact m4
 ·rw[hl,au qi];exact m5
 ·rw[au qi];exact m6
 ·exact aq
 ·rw[h2,au qi];exact m8
section
variable {E:Ev} {a b:Sd} {d:Rl→Nat} {C:Rl→Option aj} {h:PT aj} {n:Nat}
theorem agD(T:Tw E a b d C h n){t:Nat}(ht:1≤t∧t≤E.l.H.length)(hK:a.K.getD t 0=1):
  cE prog OB 53 [pt (d (70,0)),I6 t] h n fun v h' n'=>v=I6 0∧∃ C',Nz n d C [(74,0)] [] d C' h' n'∧Tw E (a.lk t) b d C' h' n':=by
 obtain⟨stk,tag,X,xk,R,rk,M,B,Pk,I,EV⟩:=T.pg;have hl:t-1<(List.replicate E.l.H.length (0:Int)).length:=by rw[List.length_replicate];omega
 have rg:Qc h n (d (70,0)) (d (75,0)) (d (74,0)) (d (77,0)) (d (76,0)) R rk X xk (List.replicate E.l.H.length 0):=⟨T.st.wf,⟨_,_,_,_,_,_,_,T.st.at B.base⟩,T.st.at B.reg,⟨_,_,_,_,T.st.at B.pool⟩,T.st.at B.Cn,T.st.at B.out,by rw[List.length_replicate];exact I.n1⟩;have hG:(List.replicate E.l.H.length (0:Int))[t-1]? = some ((List.replicate E.l.H.length (0:Int)).getD (t-1) 0):=by
  have:(List.replicate E.l.H.length (0:Int))[t-1]? = some 0:=by rw[List.getElem?_replicate,if_pos qJ]
  rw[List.getD,this];rfl
 have hR:=I.rs t ht.1 ht.2;rw[hK] at hR;have hm:(t:Int)∈cO X:=yU.2 ((I.out t).2 ⟨t,rfl,ht.1,ht.2,by rw[hK];decide⟩);refine(Qd rg ⟨ht.1,by omega⟩ hG hR I.ox hm).mono ?_;rintro v h' n' ⟨rfl,h2,q1,q2,q3,rfl⟩;have key:∀ Bk:aj,Nz n d C [(74,0)] [] d (upd C (74,0) (some Bk)) (h2.set (d (74,0)) (some Bk)) n':=fun Bk=>(Nz.keep (X:=[(74,0)]) (Y:=[]) T.st q1 q2 q3).trans (Nz.set qi B.reg ((T.st.kept q1 q2).set (74,0) Bk B.reg rfl));refine⟨rfl,_,key _,T.ZK (a':=a.lk t) (key _) qi qi ⟨stk,tag,X,xk,(uy R rk t (.agg ⟨[I6 ((List.replicate E.l.H.length (0:Int)).getD (t-1) 0),.bool false]⟩)).1,(uy R rk t (.agg ⟨[I6 ((List.replicate E.l.H.length (0:Int)).getD (t-1) 0),.bool false]⟩)).2,M.of fun a ha=>⟨rfl,au qJ⟩,?_,Pk,I.put ht (by rw[hK];decide) rfl ⟨by decide,by decide⟩,EV⟩ T.ua T.la⟩;obtain⟨b1,b2,b3,b4,b5,b6,⟨v,b7⟩⟩:=B;exact⟨(au qi).trans b1,aq,(au qi).trans b3,(au qi).trans b4,(au qi).trans b5,(au qi).trans b6,⟨v,(au qi).trans b7⟩⟩
theorem aap(T:Tw E a b d C h n){t:Nat}(ht:1≤t∧t≤E.l.H.length)(hK:b.K.getD t 0=1):
  cE prog OB 160 [pt (d qB),I6 t] h n fun v h' n'=>v=I6 0∧∃ C',Nz n d C [(109,0)] [] d C' h' n'∧Tw E a (b.lk t) d C' h' n':=by
 obtain⟨pv,vv,qb⟩:=T.rf.base;have hKl:=T.rf.len;have e0:=getD_some hK qJ;have r1:=T.rf.pool;have r2:=T.rf.taken;have r3:=T.rf.Cn;have r4:=T.rf.links;have r5:=T.rf.Cg;have g0:=T.st.at qb;have g1:=T.st.at r1;have g2:=T.st.at r2;have g3:=T.st.at r3;have g4:=T.st.at r4;have g5:=T.st.at r5;have n4:=T.st.lt r4;have d1:=T.st.df r4 qb qi;have d2:=T.st.df r4 r1 qi;have d3:=T.st.df r4 r3 qi;have i2:((CT b.K).map Value.bool)[t]? = some (.bool true):=by unfold CT;rw[List.getElem?_map,List.getElem?_map,e0];rfl
 have i3:((List.replicate b.K.length (0:Int)).map (Value.int .i64))[t]? = some (.int .i64 0):=by rw[List.getElem?_map,List.getElem?_replicate,if_pos qJ];rfl
 have i4:((EM b.K).map (Value.int .i64))[t]? = some (.int .i64 0):=by unfold EM;rw[List.getElem?_map,List.getElem?_map,e0];rfl
 have i5:((Lt b.K).map (Value.int .i64))[t]? = some (.int .i64 0):=by unfold Lt;rw[List.getElem?_map,List.getElem?_map,e0];rfl
 have hst:((EM b.K).map (Value.int .i64)).set t (.int .i64 1)=(EM (b.K.set t 2)).map (.int .i64):=by unfold EM;rw[List.map_set,List.map_set];rfl
 have hH:=T.ok.hlen;obtain⟨t1,t2⟩:=ht;have e7:(t:Int)<b.K.length:=by omega
 have e8:(1:Int)≤t:=by omega
 have hbt:(t+1).ble (EM b.K).length=true:=Nat.ble_eq_true_of_le (by unfold EM;rw[List.length_map];omega);clear hKl hK;refine ay (N:=42) func160 rfl rfl fun z hP hO hro hN hQ=>?_
 repeat' first|simp(disch:=try exact yj) only[go_sem, *] | (apply xs<;>intro _)<;>try omega | ((with_reducible refine b8 7 ?_);refine dw 42 7 afZ (by first | (simp only[go_sem, *];done)|rfl) (by kernel_rfl) (by kernel_rfl) ?_)|refine fun (_ _:List Nat)=>?_ | (first|refine bD func224 rfl ?_ ?_ ?_ ?_ |fail)<;>intros
 have N:=Nz.set (X:=[(109,0)]) (Y:=[]) qi r4 (T.st.set (109,0) (.cells (PT.ofList .leaf 0 ((EM (b.K.set t 2)).map (.int .i64))) false) r4 rfl);exact⟨_,N,T.atB (b':=b.lk t) N qi qi (T.rf.link e0) T.ub T.lb⟩
end
end Go.Proofs.YtofmbmclopgldaaGreat
namespace Go.Proofs.YtofmbmclopgldaaGreat
open Go.Am Go.Proofs.Tryz
theorem AZ{l:dg}{W:List Int}{lv:Int}:∀ {f:Nat} {S:List Bool} {r t:Int},t∈chain l W lv f S r→lv<qx l.H t
 |0,S,r,t,h=>by simp[chain] at h
 |f+1,S,r,t,h=>by
  rw[chain] at h;split at h
  ·rename_i hc
   rcases List.mem_cons.1 h with rfl |h
   ·exact hc.2.2
   ·exact AZ h
  ·simp at h
theorem aaq{l:dg}{W:List Int}{V v lv t:Int}(hk:0≤lv)(h:t∈wE l W v lv):Nd l V t lv:=by
 have h1:=CA h;have h2:=AZ h;refine⟨hk,.inr ⟨h1,?_⟩⟩;unfold qx at h2;rw[if_pos (show 1≤t∧t≤_ from h1)] at h2;exact h2
theorem Js{E:Ev}{W:List Int}{key:Int}:∀ (ws:List Int) (r:Int),(ws.foldl (fun r t=>if uB E W t<key then t else r) r)=r∨(ws.foldl (fun r t=>if uB E W t<key then t else r) r)∈ws
 | [],r => .inl rfl
 |t::ts,r=>by
  rw[List.foldl_cons]
  rcases Js ts (if uB E W t<key then t else r) with h |h
  ·rw[h];split
   ·exact .inr (by simp)
   ·exact .inl rfl
  ·exact .inr (by simp[h])
theorem aar{E:Ev}{W:List Int}{v key lv:Int}(hv:0≤v∧v<E.V)(hl:0≤lv∧lv<6):Nd E.l E.V (LA E W v key (wE E.l W v lv)) lv:=by
 rcases @Js E W key (wE E.l W v lv) (-1-v) with h |h
 ·unfold LA;rw[h];exact⟨hl.1,.inl ⟨by omega,by omega,hl.2⟩⟩
 ·exact aaq hl.1 h
structure Wm(m:Nat)(d:Rl→Nat)(C:Rl→Option aj)(d':Rl→Nat)(C':Rl→Option aj):Prop where
 a:d' (70,0)=d (70,0)
 b:d' qB=d qB
 own:∀ r,m≤r.1→r.1≤9000→d' r=d r∧C' r=C r
theorem Wm.refl{m:Nat}{d:Rl→Nat}{C:Rl→Option aj}:Wm m d C d C:=⟨rfl,rfl,fun _ _ _=>⟨rfl,rfl⟩⟩
theorem Wm.trans{m:Nat}{d d' d2:Rl→Nat}{C C' C2:Rl→Option aj}(p:Wm m d C d' C')(q:Wm m d' C' d2 C2):Wm m d C d2 C2:=⟨q.a.trans p.a,q.b.trans p.b,fun r h1 h2=>⟨(q.own r h1 h2).1.trans (p.own r h1 h2).1,(q.own r h1 h2).2.trans (p.own r h1 h2).2⟩⟩
theorem Wo.wm{m:Nat}{d d':Rl→Nat}{C C':Rl→Option aj}(p:Wo d C d' C')(h:200≤m):Wm m d C d' C':=⟨p.a,p.b,fun r h1 h2=>p.own r qJ h2⟩
theorem Wm.up{m m':Nat}{d d':Rl→Nat}{C C':Rl→Option aj}(p:Wm m d C d' C')(h:m≤m'):Wm m' d C d' C':=⟨p.a,p.b,fun r h1 h2=>p.own r qJ h2⟩
theorem Wm.of{m n n':Nat}{d d':Rl→Nat}{C C':Rl→Option aj}{h':PT aj}{X Y:List Rl}(N:Nz n d C X Y d' C' h' n')(hX:∀ r∈X,r.1<m∨9000<r.1)(hY:∀ r∈Y,(r.1<m∨9000<r.1)∧r≠(70,0)∧r≠(100,0)):Wm m d C d' C':=
 ⟨N.dd _ fun q=>(hY _ q).2.1 rfl,N.dd _ fun q=>(hY _ q).2.2 rfl,fun r h1 h2=>⟨N.dd _ fun q=>by have:=(hY _ q).1;omega,N.cc _ fun q=>by have:=hX _ q;omega⟩⟩
def Sd.ly(E:Ev)(s:Sd)(v key t:Int)(k:Nat):Sd:=
 (s.st 0 (na E.l t k) (vm s.W (na E.l (LA E s.W v key (wE E.l s.W v k)) k))).st 0 (na E.l (LA E s.W v key (wE E.l s.W v k)) k) t
def Sd.E6(E:Ev)(s:Sd)(v key t:Int):Nat→Sd
 |0=>s
 |m+1=>(Sd.E6 E s v key t m).ly E v key t m
theorem Qv{E:Ev}{s:Sd}{v key t:Int}:∀ m,(Sd.E6 E s v key t m).k=s.k+2*m
 |0=>rfl
 |m+1=>by have:=@Qv E s v key t m;simp only[Sd.E6,Sd.ly,Sd.st];omega
theorem Xt{E:Ev}{s:Sd}{v key t:Int}:∀ m,(Sd.E6 E s v key t m).K=s.K
 |0=>rfl
 |m+1=>by have:=@Xt E s v key t m;simpa only[Sd.E6,Sd.ly,Sd.st] using this
section
variable {E:Ev} {s:Sd} {d:Rl→Nat} {C:Rl→Option aj} {h:PT aj} {n:Nat}
theorem ar1(T:Tw E s s d C h n)(hk:s.k≤80000){t:Nat}{x key:Int}(hT:ux E.l t)(hx:hgt E.l t=x)(hkey:0≤key∧key<18446744073709551616)(hK:s.K.getD t 0=1):
  cE prog OB 77 [two d,I6 t,I6 x,U6 key] h n fun v h' n'=>v = .bool true∧∃ d' C',Tw E ((s.E6 E (E.val key) key t x.toNat).lk t) ((s.E6 E (E.val key) key t x.toNat).lk t) d' C' h' n'∧Wm 210 d C d' C':=by
 obtain⟨pv,vv,qb⟩:=T.rf.base;have Kr:=Ev.AY T.ok hkey.1;have Mb:=T.ok.num.vh hT;have hok:=T.ok.dom;rw[hx] at Mb;obtain⟨k1,k2⟩:=hkey;refine ay (N:=86) func77 rfl rfl fun z hP hO hro hN hQ=>?_;obtain⟨d1,C1,N1,Qw,Qx⟩:∃ d1 C1,Nz n d C [(200,0)] [(200,0)] d1 C1 (h.set n (some (.cells (PT.ofList .leaf 0 [pt (d (70,0)),pt (d qB)]) false))) (n+1)∧d1 (200,0)=n∧C1 (200,0)=row [pt (d (70,0)),pt (d qB)]:=
  ⟨_,_,Nz.new qi (Nat.le_refl _) (Nat.le_succ _) (T.st.new (200,0) _ (Nat.le_refl _) (Nat.lt_succ_self _)),aq,aq⟩
 have T1:=T.own N1 qi qi;have W1:Wm 210 d C d1 C1:=Wm.of N1 qi qi;have vM:=T1.st.at Qx;rw[Qw] at vM;have hdl:=T1.dom;rw[N1.dd qB qi] at hdl;have JN:=fun z f d ops r K m n=>@cw _ _ _ _ _ hdl z f d ops r K m n (fun _ _ q=>q)
 try repeat' first|simp(disch:=try exact yj) only[go_sem, *] | (apply xs<;>intro _)<;>try omega
 generalize h.set n _=h1 at*
 repeat' first|simp(disch:=try exact yj) only[go_sem, *,rF] | (apply xs<;>intro _)<;>try omega
 clear JN hdl;refine a_ (fun t' m h' n'=>∃ (k:Nat) (d':Rl→Nat) (C':Rl→Option aj),(k:Int)≤x∧t'=x.toNat-k∧m.n=86∧m.fF=[]∧m.get 1=I6 t∧m.get 2=I6 x∧m.get 3=U6 key∧m.get 4=pt n∧m.get 9=I6 (E.val key)∧m.get 10=I6 k∧Tw E (s.E6 E (E.val key) key t k) (s.E6 E (E.val key) key t k) d' C' h' n'∧Wm 200 d1 C1 d' C') x.toNat ?_ ?_
 ·refine⟨0,d1,C1,by omega,by omega,?_⟩;simp(disch:=try exact yj) only[go_sem, *];exact⟨rfl,T1,Wm.refl⟩
 ·clear T1 vM;rintro t' m h' n' ih ⟨k,d2,C2,hkx,rfl,p1,p2,p3,p4,p5,p6,p7,p8,T2,W2⟩;have hkk:=@Qv E s (E.val key) key t k;have hKK:=@Xt E s (E.val key) key t k;have zb:=(W2.own (200,0) qi qi);have vM:=T2.st.at (zb.2.trans Qx);rw[zb.1,Qw] at vM;obtain⟨pv2,vv2,HK⟩:=T2.rf.base;have uz:=T2.st.at HK;rw[W2.b,W1.b] at uz;generalize tM:s.E6 E (E.val key) key t k=s2 at*;by_cases hlt:(k:Int)<x
  ·have hnd:=aar (E:=E) (W:=s2.W) (key:=key) Kr (lv:=(k:Int)) ⟨by omega,by omega⟩;have bf:=ar0 T2 (v:=E.val key) (lv:=(k:Int)) Kr ⟨by omega,by omega⟩ ⟨k1,k2⟩;have Qy:two d2=two d:=by unfold two;rw[W2.a,W2.b,W1.a,W1.b]
   rw[Qy] at bf
   repeat' first|simp(disch:=try exact yj) only[go_sem, *] | (apply xs<;>intro _)<;>try omega
   refine jg (bf) ?_;rintro y h3 n3 ⟨d3,C3,N3,rfl⟩;have hly:s.E6 E (E.val key) key t (k+1)=s2.ly E (E.val key) key t k:=by rw[Sd.E6,tM]
   unfold Sd.ly at hly;generalize LA E s2.W (E.val key) key (wE E.l s2.W (E.val key) k)=r at*;have T3:=T2.own N3 qi qi;have W3:=W2.trans (Wm.of N3 qi qi);have zb:=(W3.own (200,0) qi qi);have vM:=T3.st.at (zb.2.trans Qx);rw[zb.1,Qw] at vM;obtain⟨pv3,vv3,qb3⟩:=T3.rf.base;have uz:=T3.st.at qb3;rw[W3.b,W1.b] at uz;obtain⟨⟨wc,m1⟩,m2,-,-⟩:=T3.rf.mem;have gm1:=T3.st.at m1;have gm2:=T3.st.at m2;have zo:=gT (T3.fy.kept T3.st) T.ok.vo;have hrl:=fun z f d ops r K m n=>@cw _ _ _ _ _ zo z f d ops r K m n (fun _ _ q=>q);have hn:=T.ok.num;have hd2:Nd E.l E.V t k:=⟨by omega,.inr ⟨hT,by rw[hx];exact hlt⟩⟩;have en:=hn.nxt hnd;have eo:=hn.nxt hd2;have Cz:sZ E.Wt r k=iU [I6 (na E.l r k),I6 0]:=by rw[←T.ok.nx r k (by obtain⟨-,q | ⟨q,-⟩⟩:=hnd;(have:=hn.V2;omega);(have:=q.1;omega)) (by obtain⟨-,q | ⟨q,-⟩⟩:=hnd;omega;(have:=q.2;have:=T.ok.hlen;omega))];unfold j5;rw[en.1,en.2]
   have ar3:sZ E.Wt t k=iU [I6 (na E.l t k),I6 0]:=by rw[←T.ok.nx t k (by have:=hT.1;omega) (by have:=hT.2;have:=T.ok.hlen;omega)];unfold j5;rw[eo.1,eo.2]
   have hR:=hn.naR hnd;have hO2:=hn.naR hd2;have pH:na E.l r k<s2.W.length:=by rw[T3.lb];exact hR.2
   have hg:=dP pH;have hwi:=iJ pH;clear bf en eo
   repeat' first|simp(disch:=try exact yj) only[go_sem, *,dB,Cz,ar3] | (apply xs<;>intro _)<;>try omega
   have h7':=hn.p7';have e6:=T.ok.e6;have hwr:=T3.ub _ (List.getElem_mem pH);have s1:=Cv T3 (th:=0) (i:=na E.l t k) (x:=s2.W[na E.l r k]) qJ qJ ⟨by omega,by omega⟩ hO2.2 hwr qJ;have Qz:two d3=two d:=by unfold two;rw[W3.a,W3.b,W1.a,W1.b]
   rw[Qz] at s1;have htH:=T.ok.hlen;have ht2:=hT.2;have hwt:IntKind.u64.wrap (t:Int)=t:=wrap_u64 qJ qJ;clear hwi
   repeat' first|simp(disch:=try exact yj) only[go_sem, *] | (apply xs<;>intro _)<;>try omega | ((with_reducible refine b8 8 ?_);refine dw 86 8 aoG (by first | (simp only[go_sem, *];done)|rfl) (by kernel_rfl) (by kernel_rfl) ?_)
   refine jg (s1) ?_;rintro y h4 n4 ⟨rfl,d4,C4,T4,W4⟩;intro rd1 wr1;have W5:=W3.trans (W4.wm qi);have zb:=(W5.own (200,0) qi qi);have vM:=T4.st.at (zb.2.trans Qx);rw[zb.1,Qw] at vM;have s2':=Cv T4 (th:=0) (i:=na E.l r k) (x:=(t:Int)) (by simp only[Sd.st];omega) (by simp only[Sd.st];omega) ⟨by omega,by omega⟩ hR.2 ⟨by omega,by omega⟩ qJ;have QA:two d4=two d:=by unfold two;rw[W5.a,W5.b,W1.a,W1.b]
   rw[QA] at s2';clear s1 uz gm1 gm2 hg hrl
   repeat' first|simp(disch:=try exact yj) only[go_sem, *] | (apply xs<;>intro _)<;>try omega
   refine jg (s2') ?_;rintro y h5 n5 ⟨rfl,d5,C5,T5,W6⟩;intro RB RC;clear s2'
   repeat' first|simp(disch:=try exact yj) only[go_sem, *] | (apply xs<;>intro _)<;>try omega
   refine ih (x.toNat-(k+1)) _ _ _ qJ ⟨k+1,d5,C5,by omega,rfl,?_⟩;rw[iJ pH] at hly;clear ih vM;rw[hly];simp(disch:=try exact yj) only[go_sem, *];exact⟨rfl,W5.trans (W6.wm qi)⟩
  ·obtain rfl:(k:Int)=x:=by omega
   rw[Int.toNat_natCast,tM] at hQ;have hKt:s2.K.getD t 0=1:=by rw[hKK];exact hK
   have tb:1≤t∧t≤E.l.H.length:=by have:=hT.1;have:=hT.2;omega
   have la:=agD T2 tb hKt;rw[W2.a,W1.a] at la;clear ih
   repeat' first|simp(disch:=try exact yj) only[go_sem, *] | (apply xs<;>intro _)<;>try omega
   refine jg (la) ?_;rintro y h3 n3 ⟨rfl,C3,N3,T3⟩;have W3:=W2.trans (Wm.of N3 qi qi);have lb:=aap T3 tb hKt;rw[W3.b,W1.b] at lb;have zb:=(W3.own (200,0) qi qi);have vM:=T3.st.at (zb.2.trans Qx);rw[zb.1,Qw] at vM;clear la uz
   repeat' first|simp(disch:=try exact yj) only[go_sem, *] | (apply xs<;>intro _)<;>try omega
   refine jg (lb) ?_;rintro y h4 n4 ⟨rfl,C4,N4,T4⟩;have W4:=W3.trans (Wm.of N4 qi qi);clear lb vM
   repeat' first|simp(disch:=try exact yj) only[go_sem, *] | (apply xs<;>intro _)<;>try omega
   exact⟨d2,C4,T4,W1.trans (W4.up qi)⟩
end
end Go.Proofs.YtofmbmclopgldaaGreat
namespace Go.Proofs.YtofmbmclopgldaaGreat
open Go.Am Go.Proofs.Tryz
abbrev ksL:List Ck:=[.int .u64,.int .u64,.int .i64]
def lK(A:List (List Int))(i:Nat):Int:=(A.getD i []).getD 0 0
def lV(A:List (List Int))(i:Nat):Int:=(A.getD i []).getD 1 0
def lH(A:List (List Int))(i:Nat):Int:=(A.getD i []).getD 2 0
theorem agE{A:List (List Int)}(hA:kO ksL A){i:Nat}(hi:i<A.length):
  (gj ksL A)[i*3]? = some (U6 (lK A i))∧(gj ksL A)[i*3+1]? = some (U6 (lV A i))∧(gj ksL A)[i*3+2]? = some (I6 (lH A i))∧(0≤lK A i∧lK A i<18446744073709551616)∧(0≤lV A i∧lV A i<18446744073709551616) ∧ -9223372036854775808≤lH A i∧lH A i≤9223372036854775807:=by
 have hx:A[i]? = some A[i]:=List.getElem?_eq_getElem hi;have h0:=jC hA hx 0 qi;have h1:=jC hA hx 1 qi;have h2:=jC hA hx 2 qi;obtain⟨e,w⟩:=hA A[i] (List.getElem_mem hi);unfold lK lV lH;rw[show A.getD i []=A[i] by simp[List.getD,hx]];generalize A[i]=r at*
 match r,e with
 | [a,b,c],_=>
  refine⟨h0,h1,h2,?_,?_,?_⟩
  ·exact mI w.1
  ·exact mI w.2.1
  ·exact Ao w.2.2.1
def HN(E:Ev)(W:List Int)(key:Int):Bool:=(wE E.l W (E.val key) 0).any fun t=>decide (uB E W t=key)
inductive wH (E:Ev) (s:Sd) (key val x:Int):Sd→Prop where
 |has (h:HN E s.W key=true):wH E s key val x s
 |none {s1:Sd} (h:HN E s.W key=false) (k:Tk E s x 0 s1):wH E s key val x s1
 |laid {s1:Sd} {t:Nat} (h:HN E s.W key=false) (ht:t≠0) (k:Tk E s x t s1):wH E s key val x (((s1.wr E 0 t key val 1).E6 E (E.val key) key t x.toNat).lk t)
inductive Laid (E:Ev) (A:List (List Int)) (s:Sd):Nat→Sd→Prop where
 |zero:Laid E A s 0 s
 |succ {i:Nat} {s1 s2:Sd} (h:Laid E A s i s1) (e:wH E s1 (lK A i) (lV A i) (1+bh (lH A i) 6) s2):Laid E A s (i+1) s2
section
variable {E:Ev} {s:Sd} {d:Rl→Nat} {C:Rl→Option aj} {h:PT aj} {n:Nat}
theorem Vn(T:Tw E s s d C h n)(hk:s.k≤1000){q:Nat}{sl:Value}{A:List (List Int)}(hA:o9 ksL E.h1 q sl A):
  cE prog OB 28 [two d,sl] h n fun v h' n'=>v = .bool true∧∃ s' d' C',Laid E A s (min A.length 40) s'∧s'.k≤s.k+720∧Tw E s' s' d' C' h' n'∧Wm 220 d C d' C':=by
 obtain⟨a2,c2,hsl⟩:∃ a2 c2,sl = .slice a2 A.length c2:=by
  rcases hA.2 with ⟨rfl,rfl⟩ | ⟨cp,rfl,-⟩
  ·exact⟨none,0,rfl⟩
  ·exact⟨_,_,rfl⟩
 subst hsl;refine ay (N:=70) func28 rfl rfl fun z hP hO hro hN hQ=>?_;obtain⟨d1,C1,N1,LB,LC⟩:∃ d1 C1,Nz n d C [(210,0)] [(210,0)] d1 C1 (h.set n (some (.cells (PT.ofList .leaf 0 [pt (d (70,0)),pt (d qB)]) false))) (n+1)∧d1 (210,0)=n∧C1 (210,0)=row [pt (d (70,0)),pt (d qB)]:=
  ⟨_,_,Nz.new qi (Nat.le_refl _) (Nat.le_succ _) (T.st.new (210,0) _ (Nat.le_refl _) (Nat.lt_succ_self _)),aq,aq⟩
 have T1:=T.own N1 qi qi;have W1:Wm 220 d C d1 C1:=Wm.of N1 qi qi
 try repeat' first|simp(disch:=try exact yj) only[go_sem, *] | (apply xs<;>intro _)<;>try omega
 generalize h.set n _=h1 at*
 try repeat' first|simp(disch:=try exact yj) only[go_sem, *] | (apply xs<;>intro _)<;>try omega
 refine a_ (fun t' m h' n'=>∃ (i:Nat) (s2:Sd) (d':Rl→Nat) (C':Rl→Option aj),i≤A.length∧i≤40∧t'=40-i∧m.n=70∧m.fF=[]∧m.get 1 = .slice a2 A.length c2∧m.get 2=pt n∧m.get 5=I6 i∧Laid E A s i s2∧s2.k≤s.k+18*i∧Tw E s2 s2 d' C' h' n'∧Wm 210 d1 C1 d' C') 40 ?_ ?_
 ·refine⟨0,s,d1,C1,by omega,by omega,by omega,?_⟩;simp(disch:=try exact yj) only[go_sem, *];exact⟨Laid.zero,by omega,Wm.refl⟩
 ·clear T1;rintro t' m h' n' ih ⟨i,s2,d2,C2,hiA,aGA,rfl,p1,p2,p3,p4,p5,L2,hk2,T2,W2⟩;have tJ:=(W2.own (210,0) qi qi);have qA:=T2.st.at (tJ.2.trans LC);rw[tJ.1,LB] at qA;by_cases hlt:i<A.length∧i<40
  ·have e7:(i:Int)<A.length:=by omega
   have e8:(i:Int)<40:=by omega
   rcases hA.2 with ⟨-,rfl⟩ | ⟨cp,hsl,-,-,gA⟩
   ·simp at hlt
   injection hsl with z1 z2 z3
   subst z1 z3;obtain⟨v0,v1,v2,v3,v4,v5⟩:=agE hA.1 hlt.1;have gA2:=(T2.fz.kept T2.st) _ _ gA;have Qy:two d2=two d:=by unfold two;rw[W2.a,W2.b,W1.a,W1.b]
   have hb:=hasB T2 (key:=lK A i) v3;rw[Qy] at hb;have hhk:((wE E.l s2.W (E.val (lK A i)) 0).any fun t=>decide (uB E s2.W t=lK A i))=HN E s2.W (lK A i):=rfl;rw[hhk] at hb;obtain⟨m1,m2⟩:=@cZ (lH A i) 6;have hstep:=fun s3=>@Laid.succ E A s i s2 s3 L2;generalize gj ksL A=ra at*;generalize lK A i=key at*;generalize lV A i=val at*;generalize lH A i=ht at*;have QB:∀ (r:Value) (h3:PT aj) (n3:Nat),(∃ d' C',Nz n' d2 C2 xH xH d' C' h3 n3∧r=Value.bool (HN E s2.W key))→∃ d' C',Tw E s2 s2 d' C' h3 n3∧Wm 210 d1 C1 d' C'∧r=Value.bool (HN E s2.W key):=fun r h3 n3 ⟨d3,C3,N3,e⟩=>⟨d3,C3,T2.own N3 qi qi,W2.trans (Wm.of N3 qi qi),e⟩;replace hb:=hb.mono QB;cases hc:HN E s2.W key with
   |true=>
    rw[hc] at hb;clear QB
    repeat' first|simp(disch:=try exact yj) only[go_sem, *] | (apply xs<;>intro _)<;>try omega | ((with_reducible refine b8 4 ?_);refine dw 70 4 ae8 (by first | (simp only[go_sem, *];done)|rfl) (by kernel_rfl) (by kernel_rfl) ?_)
    refine jg (hb) ?_;rintro y h3 n3 ⟨d3,C3,T3,W3,rfl⟩;intro rd1 wr1;clear hb
    repeat' first|simp(disch:=try exact yj) only[go_sem, *] | (apply xs<;>intro _)<;>try omega
    refine ih (40-(i+1)) _ _ _ qJ ⟨i+1,s2,d3,C3,by omega,by omega,rfl,?_⟩;have hst:=hstep s2 (.has hc);clear ih qA gA2 hstep;simp(disch:=try exact yj) only[go_sem, *];exact⟨rfl,by omega⟩
   |false=>
    rw[hc] at hb;clear QB
    repeat' first|simp(disch:=try exact yj) only[go_sem, *] | (apply xs<;>intro _)<;>try omega | ((with_reducible refine b8 4 ?_);refine dw 70 4 ae8 (by first | (simp only[go_sem, *];done)|rfl) (by kernel_rfl) (by kernel_rfl) ?_)
    refine jg (hb) ?_;rintro y h3 n3 ⟨d3,C3,T3,W3,rfl⟩;intro rd1 wr1;obtain⟨j,hj⟩:∃ j:Nat,bh ht 6=(j:Int):=⟨(bh ht 6).toNat,by omega⟩;rw[hj] at m1 m2 hstep;have hj6:j<6:=by omega
    have tJ:=(W3.own (210,0) qi qi);have qA:=T3.st.at (tJ.2.trans LC);rw[tJ.1,LB] at qA;have gA3:=(T3.fz.kept T3.st) _ _ gA;have Qz:two d3=two d:=by unfold two;rw[W3.a,W3.b,W1.a,W1.b]
    have tk:=aag T3 qJ (th:=0) (j:=j) qi hj6;rw[Qz,Int.add_comm (j:Int) 1] at tk;clear hb gA2
    repeat' first|simp(disch:=try exact yj) only[go_sem, *,jT,hj] | (apply xs<;>intro _)<;>try omega
    refine jg (tk) ?_;rintro y h4 n4 ⟨t,s3,d4,C4,rfl,K4,T4,W4⟩;have W5:=W3.trans (W4.wm qi);have tJ:=(W5.own (210,0) qi qi);have qA:=T4.st.at (tJ.2.trans LC);rw[tJ.1,LB] at qA;have gA4:=(T4.fz.kept T4.st) _ _ gA;have QA:two d4=two d:=by unfold two;rw[W5.a,W5.b,W1.a,W1.b]
    have k4:=K4.k;clear tk gA3;by_cases ht0:t=0
    ·subst ht0
     repeat' first|simp(disch:=try exact yj) only[go_sem, *] | (apply xs<;>intro _)<;>try omega
     refine ih (40-(i+1)) _ _ _ qJ ⟨i+1,s3,d4,C4,by omega,by omega,rfl,?_⟩;have hst:=hstep s3 (.none hc K4);clear ih qA gA4 hstep;simp(disch:=try exact yj) only[go_sem, *];exact⟨rfl,by omega⟩
    ·have hti: ¬ (t:Int)=0:=by omega
     have hst:=hstep _ (.laid hc ht0 K4);obtain h0 | ⟨g1,g2,g3,g4⟩:=K4.vh
     ·exact absurd h0 ht0
     have hT:ux E.l t:=⟨by omega,by omega⟩;have vC:=K4.kinds;rw[if_neg ht0] at vC;have hKl:=T4.rf.len;have aGE:s2.K.length=s3.K.length:=by rw[vC,List.length_set]
     have hK1:s3.K.getD t 0=1:=by rw[vC,List.getD,List.getElem?_set_self qJ];rfl
     have hgx:hgt E.l t=1+(j:Int):=by unfold hgt;rw[show ((t:Int)-1).toNat=t-1 by omega];exact g3
     have wr:=Vl T4 (th:=0) (t:=(t:Int)) (key:=key) (val:=val) (st:=1) qJ qJ qi hT (.inr rfl) v3 v4;rw[QA] at wr
     repeat' first|simp(disch:=try exact yj) only[go_sem, *] | (apply xs<;>intro _)<;>try omega | ((with_reducible refine b8 10 ?_);refine dw 70 10 afm (by first | (simp only[go_sem, *];done)|rfl) (by kernel_rfl) (by kernel_rfl) ?_)
     refine jg (wr) ?_;rintro y h5 n5 ⟨rfl,d5,C5,T5,W6⟩;intro RB RC;have W7:=W5.trans (W6.wm qi);have tJ:=(W7.own (210,0) qi qi);have qA:=T5.st.at (tJ.2.trans LC);rw[tJ.1,LB] at qA;have gA5:=(T5.fz.kept T5.st) _ _ gA;have agG:two d5=two d:=by unfold two;rw[W7.a,W7.b,W1.a,W1.b]
     have ekw:(s3.wr E 0 t key val 1).k=s3.k+3:=rfl;have ly:=ar1 T5 (t:=t) (x:=1+(j:Int)) (key:=key) qJ hT hgx v3 hK1;rw[agG] at ly;have ekl:=@Qv E (s3.wr E 0 t key val 1) (E.val key) key t (1+(j:Int)).toNat;have ekk:(((s3.wr E 0 t key val 1).E6 E (E.val key) key t (1+(j:Int)).toNat).lk t).k=((s3.wr E 0 t key val 1).E6 E (E.val key) key t (1+(j:Int)).toNat).k:=rfl;generalize ((s3.wr E 0 t key val 1).E6 E (E.val key) key t (1+(j:Int)).toNat).lk t=s4 at*;clear wr gA4
     repeat' first|simp(disch:=try exact yj) only[go_sem, *] | (apply xs<;>intro _)<;>try omega
     refine jg (ly) ?_;rintro y h6 n6 ⟨rfl,d6,C6,T6,W8⟩;intro rd3 wr3;have W9:=W7.trans (W8.up qi);clear ly gA5 qA
     repeat' first|simp(disch:=try exact yj) only[go_sem, *] | (apply xs<;>intro _)<;>try omega
     refine ih (40-(i+1)) _ _ _ qJ ⟨i+1,s4,d6,C6,by omega,by omega,rfl,?_⟩;clear ih hstep;simp(disch:=try exact yj) only[go_sem, *];exact⟨rfl,by omega⟩
  ·have hmin:min A.length 40=i:=by omega
   rw[hmin] at hQ;clear ih qA;by_cases e7:(i:Int)<A.length
   ·have e8: ¬ (i:Int)<40:=by omega
    repeat' first|simp(disch:=try exact yj) only[go_sem, *] | (apply xs<;>intro _)<;>try omega
    exact⟨s2,d2,C2,L2,by omega,T2,W1.trans (W2.up qi)⟩
   ·repeat' first|simp(disch:=try exact yj) only[go_sem, *] | (apply xs<;>intro _)<;>try omega
    exact⟨s2,d2,C2,L2,by omega,T2,W1.trans (W2.up qi)⟩
end
end Go.Proofs.YtofmbmclopgldaaGreat
namespace Go.Proofs.YtofmbmclopgldaaGreat
open Go.Am
def agI(E:Ev):Prop:=∃ q0 q1 q2 q3 q4 q8:Int,E.l.P=[q0,q1,q2,q3,q4,(E.p5:Int),(E.p6:Int),(E.p6:Int)+E.l.H.length,q8,(E.sz:Int)]∧0≤q0∧q0≤q1∧q1≤q2∧q2≤E.p5∧E.p5≤E.p6
section
variable {E:Ev} {s:Sd} {d:Rl→Nat} {C:Rl→Option aj} {h:PT aj} {n:Nat}
end
end Go.Proofs.YtofmbmclopgldaaGreat
