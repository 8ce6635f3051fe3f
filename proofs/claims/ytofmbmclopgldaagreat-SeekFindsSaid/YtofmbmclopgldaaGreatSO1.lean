/-
A part.
-/
import Derived.Test.YtofmbmclopgldaaGreatSL8
set_option linter.all false
set_option maxRecDepth 100000
set_option maxHeartbeats 16000000
namespace Go.Proofs.YtofmbmclopgldaaGreat
open Go.Am Go.Proofs.Tryz
structure SS where
 pc:Int
 nd:Int
 lv:Nat
 c:Int
 bf:List Int
 af:List Int
 fo:Int
def Jt(E:Ev)(w:Int)(lv:Nat):Int:=if (1≤w∧w≤E.l.H.length)∧(lv:Int)<hgt E.l w then w else 0
def SS.ends(s:SS):SS:=⟨if s.lv=0 then 0 else 21,s.nd,s.lv-1,s.c,s.bf.set s.lv s.nd,s.af.set s.lv s.c,s.fo⟩
def SS.nx(E:Ev)(s:SS)(w:Int):SS:=if Jt E w s.lv=0 then SS.ends ⟨s.pc,s.nd,s.lv,0,s.bf,s.af,s.fo⟩ else ⟨22,s.nd,s.lv,Jt E w s.lv,s.bf,s.af,s.fo⟩
def SS.lk(s:SS)(key k:Int):SS:=if k<key then ⟨21,s.c,s.lv,s.c,s.bf,s.af,s.fo⟩ else SS.ends ⟨s.pc,s.nd,s.lv,s.c,s.bf,s.af,if k=key∧s.fo=0 then s.c else s.fo⟩
def SS.ad(E:Ev)(s:SS):Nat:=if s.pc=21 then na E.l s.nd s.lv else ta E.l s.c
def SS.step(E:Ev)(s:SS)(key w:Int):SS:=if s.pc=21 then s.nx E w else if s.pc=22 then s.lk key w else s
structure rN(E:Ev)(s:SS):Prop where
 lv:s.lv<6
 bf:s.bf.length=6
 af:s.af.length=6
 pc:s.pc=0∨s.pc=21∨s.pc=22
 nd:s.pc≠0→Nd E.l E.V s.nd s.lv
 c:s.pc=22→ux E.l s.c∧(s.lv:Int)<hgt E.l s.c
def SS.new(v:Int):SS:=⟨21,-1-v,5,0,[0,0,0,0,0,0],[0,0,0,0,0,0],0⟩
section
variable {E:Ev} {s:SS} {key w v:Int}
theorem rN.new(hv:0≤v∧v<E.V):rN E (SS.new v):=
 ⟨show 5<6 by decide,rfl,rfl,.inr (.inl rfl),fun _=>⟨show (0:Int)≤((5:Nat):Int) by decide,.inl ⟨by show -1-v<0;omega,by show -1-(-1-v)<E.V;omega,show ((5:Nat):Int)<6 by decide⟩⟩,fun q=>absurd q (by show ¬(21:Int)=22;decide)⟩
theorem rN.ends{pc nd c fo:Int}{lv:Nat}{bf af:List Int}(hl:lv<6)(hb:bf.length=6)(ha:af.length=6)(hn:Nd E.l E.V nd lv):rN E (SS.ends ⟨pc,nd,lv,c,bf,af,fo⟩):=by
 refine⟨by show lv-1<6;omega,by show (bf.set lv nd).length=6;simpa using hb,by show (af.set lv c).length=6;simpa using ha,?_,fun q=>?_,fun q=>?_⟩
 ·by_cases c0:lv=0
  ·exact .inl (if_pos c0)
  ·exact .inr (.inl (if_neg c0))
 ·obtain⟨h0,h⟩:=hn;refine⟨by show (0:Int)≤((lv-1:Nat):Int);omega,?_⟩
  rcases h with h |h
  ·exact .inl ⟨h.1,h.2.1,by show ((lv-1:Nat):Int)<6;omega⟩
  ·exact .inr ⟨h.1,Int.lt_of_le_of_lt (show ((lv-1:Nat):Int)≤lv by omega) h.2⟩
 ·exfalso;have q':(if lv=0 then (0:Int) else 21)=22:=q;split at q'<;>omega
end
def Sd.ld(s:Sd)(th:Int)(a:Nat):Sd:=⟨s.W,s.L++gU th a 1 (vm s.W a) (vm s.W a) false,s.k+1,s.K⟩
section
variable {E:Ev} {a b:Sd} {d:Rl→Nat} {C:Rl→Option aj} {h:PT aj} {n:Nat}
theorem Xu(T:Tw E a b d C h n)(hka:a.k≤90000){th:Int}{i:Nat}(ht:0≤th∧th<64)(hi:i<E.sz):
  cE prog OB 163 [pt (d rM),I6 th,I6 i] h n fun v h' n'=>∃ d' C',v=iU [U6 (vm a.W i),I6 0]∧Nz n d C mA [(2,0)] d' C' h' n'∧Tw E (a.ld th i) b d' C' h' n':=by
 have U1:i<a.W.length:=by rw[T.la];exact hi
 obtain⟨stk,tag,X,xk,R,rk,M,B,Pk,I,EV⟩:=T.pg;refine(PZ T.st M qJ ht U1).mono ?_;rintro v h' n' ⟨d',C',rfl,N,M2⟩;refine⟨d',C',by rw[iJ U1],N,T.ZK (a':=a.ld th i) N qi qi (T.pg.mem (by rw[←iJ U1] at M2;exact M2) (fun r h1 h2 h3 h4=>⟨N.dd r fun q=>by simp at q;exact h4 (by rw[q]),N.cc r fun q=>by simp at q;rcases q with q |q |q<;>simp[q] at h2 h3 h4⟩) (N.dd rM qi) (by simp[Sd.ld]) (by simp[Sd.ld]) fun j h1 h2=>rfl)
   T.ua T.la⟩
end
end Go.Proofs.YtofmbmclopgldaaGreat
namespace Go.Proofs.YtofmbmclopgldaaGreat
open Go.Am Go.Proofs.Tryz
def zv(ws:List Int)(x:Int):List Int:=if ws.length<4∧0<x∧(ws.length=0∨ws.getD (ws.length-1) 0<x) then ws++[x] else ws
@[go_sem] theorem Vt{w:Bool}:xF (some dY) w=false:=rfl
abbrev xD:List Rl:=[(130,0),(131,0),(132,0)]
section
variable {d:Rl→Nat} {C:Rl→Option aj} {h h1:PT aj} {n n1:Nat}
theorem asH(S:St h n d C)(F:Fz h1 n1 d C)(hn:n1≤n){kd dn:Int}{s:Value}{xs:List Int}(hs:aN .u64 h1 s xs)(hl:xs.length<1000000000000000)(vC:0≤kd∧kd<256):
  cE prog OB 73 [.agg ⟨[U8 kd,I6 dn,s]⟩] h n fun v h' n'=>∃ d' C',Nz n d C xD xD d' C' h' n'∧(v = .agg ⟨[U8 1,I6 0,.slice none 0 0]⟩∨v = .agg ⟨[U8 2,I6 (1+bh dn 5),.slice none 0 0]⟩∨∃ ws:List Int,ws≠[]∧ws=xs.foldl zv []∧v = .agg ⟨[U8 3,I6 0,mkV (d' (132,0)) ws]⟩∧C' (132,0)=row (ws.map (.int .u64))):=by
 obtain⟨a,c,rfl,hX⟩:=hs.len;obtain⟨k1,k2⟩:=vC;have hm1:=Int.tmod_nonneg (3:Int) k1;have hm2:=Int.tmod_lt_of_pos kd (show (0:Int)<3 by decide);obtain⟨r1,r2⟩:=@cZ dn 5;refine ay (N:=63) func73 rfl rfl fun z hP hO hro hN hQ=>?_;by_cases c0:kd.tmod 3=0
 ·repeat' first|simp(disch:=try exact jh) only[go_sem, *] | (apply xs<;>intro _)<;>try omega
  exact⟨_,_,Nz.new (t:=131) (b:=0) qi qJ qJ (((S.junk (Nat.le_refl _) (Nat.lt_succ_self _)).new (131,0) _ (Nat.le_refl _) (Nat.lt_succ_self _)).re aq)⟩
 ·by_cases c1:kd.tmod 3=1
  ·repeat' first|simp(disch:=try exact jh) only[go_sem, *,jT] | (apply xs<;>intro _)<;>try omega
   exact⟨_,_,Nz.new (t:=131) (b:=0) qi qJ qJ (((S.junk (Nat.le_refl _) (Nat.lt_succ_self _)).new (131,0) _ (Nat.le_refl _) (Nat.lt_succ_self _)).re aq)⟩
  ·repeat' first|simp(disch:=try exact jh) only[go_sem, *] | (apply xs<;>intro _)<;>try omega
   obtain⟨d1,C1,N1,asI,asJ,asK,asL⟩:∃ d1 C1,Nz n d C xD xD d1 C1 ((h.set n (some (.cells (PT.ofList .leaf 0 [U8 kd,I6 dn,.slice a xs.length c]) false))).set (n+1) (some (.cells (PT.ofList .leaf 0 [.int .u8 0,.int .i64 0,.slice none 0 0]) false))) (n+1+1)∧d1 (130,0)=n∧d1 (131,0)=n+1∧C1 (130,0)=row [U8 kd,I6 dn,.slice a xs.length c]∧C1 (131,0)=row [.int .u8 0,.int .i64 0,.slice none 0 0]:=
    ⟨_,_,(Nz.new (t:=130) (b:=0) qi (Nat.le_refl _) (Nat.le_succ _) (S.new (130,0) _ (Nat.le_refl _) (Nat.lt_succ_self _))).trans (Nz.new (t:=131) (b:=0) qi (Nat.le_refl _) (Nat.le_succ _) ((S.new (130,0) _ (Nat.le_refl _) (Nat.lt_succ_self _)).new (131,0) _ (Nat.le_refl _) (Nat.lt_succ_self _))),(au qi).trans aq,aq,(au qi).trans aq,aq⟩
   refine a_ (fun t m h' n'=>∃ (i:Nat) (ws:List Int) (d':Rl→Nat) (C':Rl→Option aj),i≤xs.length∧t=xs.length-i∧Hid (ws=(xs.take i).foldl zv [])∧ws.length≤4∧m.n=63∧m.fF=[]∧m.get 1=pt n∧m.get 2=pt (n+1)∧m.get 3=mkV (d' (132,0)) ws∧m.get 4=I6 i∧Nz n d C xD xD d' C' h' n'∧d' (130,0)=n∧d' (131,0)=n+1∧C' (130,0)=row [U8 kd,I6 dn,.slice a xs.length c]∧C' (131,0)=row [.int .u8 0,.int .i64 0,.slice none 0 0]∧(0<ws.length→C' (132,0)=row (ws.map (.int .u64)))) xs.length ?_ ?_
   ·refine⟨0,[],d1,C1,by omega,by omega,⟨rfl⟩,by simp,?_⟩;clear hX;simp(disch:=try exact jh) only[go_sem, *];exact⟨rfl,fun q=>q.elim⟩
   ·clear N1 asI asJ asK asL;rintro t m h' n' ih ⟨i,ws,d',C',hi,rfl,hw,hw4,p1,p2,p3,p4,p5,p6,N,e1,e2,b1,b2,b3⟩;have g1:=N.st.at b1;have g2:=N.st.at b2;rw[e1] at g1;rw[e2] at g2;by_cases hlt:i<xs.length∧ws.length<4
    ·obtain⟨hlt,hw5⟩:=hlt;obtain⟨b,off,sp,L,ro,rfl,hgb,u_⟩:=hX i hlt;have kb:=((N.fz _ _ hn F).kept N.st) _ _ hgb;have hs1:(xs.take (i+1)).foldl zv []=zv ws (xs.getD i 0):=by
      rw[List.take_succ_eq_append_getElem hlt,List.foldl_append,←hw.h];simp[List.getD,hlt]
     have e7:(i:Int)<xs.length:=by omega
     have tM:Hid ((xs.take (i+1)).foldl zv []=zv ws (xs.getD i 0)):=⟨hs1⟩;clear hs1 hX;generalize xs.getD i 0=y at*;by_cases c2:ws.length=0
     ·obtain rfl:ws=[]:=List.length_eq_zero_iff.1 c2;rw[tH] at p5;by_cases c3:0<y
      ·have hct:zv [] y=[y]:=if_pos ⟨by simp,c3,.inl rfl⟩;rw[hct] at tM;clear hct
       repeat' first|simp(disch:=try exact jh) only[go_sem, *] | (apply xs<;>intro _)<;>try omega
       refine ih (xs.length-(i+1)) _ _ _ qJ ⟨i+1,[y],upd d' (132,0) (n'+1),upd C' (132,0) (row [U6 y]),by omega,rfl,⟨tM.h.symm⟩,by simp,?_⟩;clear ih;simp(disch:=try exact jh) only[go_sem, *];exact⟨by rw[aq];rfl,rfl,N.trans (Nz.new (t:=132) (b:=0) qi qJ qJ ((N.st.junk (Nat.le_refl _) (Nat.lt_succ_self _)).new (132,0) _ (Nat.le_refl _) (Nat.lt_succ_self _))),(au qi).trans e1,(au qi).trans e2,(au qi).trans b1,(au qi).trans b2,fun _=>aq⟩
      ·have hct:zv [] y=[]:=if_neg fun q=>c3 q.2.1;rw[hct] at tM;clear hct
       repeat' first|simp(disch:=try exact jh) only[go_sem, *] | (apply xs<;>intro _)<;>try omega
       refine ih (xs.length-(i+1)) _ _ _ qJ ⟨i+1,[],d',C',by omega,rfl,⟨tM.h.symm⟩,by simp,?_⟩;clear ih;simp(disch:=try exact jh) only[go_sem, *];exact⟨rfl,rfl,fun q=>q.elim⟩
     ·have hpos:0<ws.length:=by omega
      have b4:=b3 hpos;have g3:=N.st.at b4;have n3:=N.st.lt b4;have d31:=N.st.df b4 b1 qi;have d32:=N.st.df b4 b2 qi;rw[e1] at d31;rw[e2] at d32;rw[fS hpos] at p5;have e8:(ws.length:Int)<4:=by omega
      have e9: ¬ (ws.length:Int)=0:=by omega
      have PA:(ws.map (Value.int .u64))[ws.length-1]? = some (U6 (ws.getD (ws.length-1) 0)):=by rw[List.getElem?_map,List.getElem?_eq_getElem qJ];simp[List.getD,show ws.length-1<ws.length by omega]
      have hwi:((ws.length:Int)-1)=((ws.length-1:Nat):Int):=by omega
      have hml:(ws.map (Value.int .u64)).length=ws.length:=List.length_map _;have hsn:∀ g,mkV g (ws++[y]) = .slice (some ⟨g,0,none⟩) (ws.length+1) (aA+1):=fun g=>tI;have w9:zv ws y=if 0<y∧ws.getD (ws.length-1) 0<y then ws++[y] else ws:=by
       unfold zv;by_cases q:0<y∧ws.getD (ws.length-1) 0<y
       ·rw[if_pos q,if_pos ⟨hw5,q.1,.inr q.2⟩]
       ·rw[if_neg q,if_neg fun z=>q ⟨z.2.1,z.2.2.resolve_left c2⟩]
      generalize ws.getD (ws.length-1) 0=la at*;by_cases c3:0<y
      ·by_cases c4:la<y
       ·rw[w9,if_pos ⟨c3,c4⟩] at tM;clear w9
        repeat' first|simp(disch:=try exact jh) only[go_sem, *] | (apply xs<;>intro _)<;>try omega
        refine ih (xs.length-(i+1)) _ _ _ qJ ⟨i+1,ws++[y],upd d' (132,0) (n'+1),upd C' (132,0) (row (ws.map (.int .u64)++[U6 y])),by omega,rfl,⟨tM.h.symm⟩,by simp;omega,?_⟩;clear ih;simp(disch:=try exact jh) only[go_sem, *];exact⟨by rw[aq],rfl,N.trans (Nz.new (t:=132) (b:=0) qi qJ qJ ((((N.st.junk (Nat.le_refl _) (Nat.lt_succ_self _)).kill (132,0) b4 rfl).new (132,0) _ (Nat.le_refl _) (Nat.lt_succ_self _)).eq (by rw[gn]) rfl)),(au qi).trans e1,(au qi).trans e2,(au qi).trans b1,(au qi).trans b2,fun _=>by rw[List.map_append];exact aq⟩
       ·rw[w9,if_neg fun q=>c4 q.2] at tM;clear w9
        repeat' first|simp(disch:=try exact jh) only[go_sem, *] | (apply xs<;>intro _)<;>try omega
        refine ih (xs.length-(i+1)) _ _ _ qJ ⟨i+1,ws,d',C',by omega,rfl,⟨tM.h.symm⟩,hw4,?_⟩;clear ih;simp(disch:=try exact jh) only[go_sem, *];refine⟨(fS hpos).symm,?_⟩;first|rfl|exact b4|exact⟨rfl,b3⟩ |exact⟨rfl,fun q=>q⟩
      ·rw[w9,if_neg fun q=>c3 q.1] at tM;clear w9
       repeat' first|simp(disch:=try exact jh) only[go_sem, *] | (apply xs<;>intro _)<;>try omega
       refine ih (xs.length-(i+1)) _ _ _ qJ ⟨i+1,ws,d',C',by omega,rfl,⟨tM.h.symm⟩,hw4,?_⟩;clear ih;simp(disch:=try exact jh) only[go_sem, *];refine⟨(fS hpos).symm,?_⟩;first|rfl|exact b4|exact⟨rfl,b3⟩ |exact⟨rfl,fun q=>q⟩
    ·have XD:ws=xs.foldl zv []:=by
      by_cases q:i<xs.length
      ·have h4:ws.length=4:=by omega
       have hid:∀ l:List Int,l.foldl zv ws=ws:=fun l=>by
        induction l with
        |nil=>rfl
        |cons z l ih=>rw[List.foldl_cons,show zv ws z=ws from if_neg fun q=>absurd q.1 qJ];exact ih
       have:=hid (xs.drop i);rw[hw.h,←List.foldl_append,List.take_append_drop] at this;rw[hw.h];exact this.symm
      ·rw[hw.h,List.take_of_length_le qJ]
     have WV:Hid (ws=xs.foldl zv []):=⟨XD⟩;clear ih XD hw hX;by_cases c2:ws.length=0
     ·obtain rfl:ws=[]:=List.length_eq_zero_iff.1 c2;rw[tH] at p5;have e7: ¬ (i:Int)<xs.length:=fun q=>hlt ⟨by omega,by simp⟩
      repeat' first|simp(disch:=try exact jh) only[go_sem, *] | (apply xs<;>intro _)<;>try omega
      exact⟨d',_,N.trans (Nz.set (t:=131) (b:=0) qi b2 (N.st.set (131,0) _ b2 e2))⟩
     ·have hpos:0<ws.length:=by omega
      rw[fS hpos] at p5;have e9: ¬ (ws.length:Int)=0:=by omega
      by_cases q:i<xs.length
      ·have e7:(i:Int)<xs.length:=by omega
       have e8: ¬ (ws.length:Int)<4:=by omega
       repeat' first|simp(disch:=try exact jh) only[go_sem, *] | (apply xs<;>intro _)<;>try omega
       exact⟨d',_,N.trans (Nz.set (t:=131) (b:=0) qi b2 (N.st.set (131,0) _ b2 e2)),.inr (.inr ⟨ws,fun z=>c2 (by rw[z];rfl),WV.h,by rw[fS hpos],(au qi).trans (b3 hpos)⟩)⟩
      ·have e7: ¬ (i:Int)<xs.length:=by omega
       repeat' first|simp(disch:=try exact jh) only[go_sem, *] | (apply xs<;>intro _)<;>try omega
       exact⟨d',_,N.trans (Nz.set (t:=131) (b:=0) qi b2 (N.st.set (131,0) _ b2 e2)),.inr (.inr ⟨ws,fun z=>c2 (by rw[z];rfl),WV.h,by rw[fS hpos],(au qi).trans (b3 hpos)⟩)⟩
end
end Go.Proofs.YtofmbmclopgldaaGreat
