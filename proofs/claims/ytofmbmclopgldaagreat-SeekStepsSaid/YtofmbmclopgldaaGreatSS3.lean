/-
A part.
-/
import Derived.Test.YtofmbmclopgldaaGreatSL8
set_option linter.all false
set_option maxRecDepth 100000
set_option maxHeartbeats 16000000
namespace Go.Proofs.YtofmbmclopgldaaGreat
open Go.Am Go.Proofs.Tryz
structure SS where
 pc:Int
 nd:Int
 lv:Nat
 c:Int
 bf:List Int
 af:List Int
 fo:Int
def Jt(E:Ev)(w:Int)(lv:Nat):Int:=if (1≤w∧w≤E.l.H.length)∧(lv:Int)<hgt E.l w then w else 0
def SS.ends(s:SS):SS:=⟨if s.lv=0 then 0 else 21,s.nd,s.lv-1,s.c,s.bf.set s.lv s.nd,s.af.set s.lv s.c,s.fo⟩
def SS.nx(E:Ev)(s:SS)(w:Int):SS:=if Jt E w s.lv=0 then SS.ends ⟨s.pc,s.nd,s.lv,0,s.bf,s.af,s.fo⟩ else ⟨22,s.nd,s.lv,Jt E w s.lv,s.bf,s.af,s.fo⟩
def SS.lk(s:SS)(key k:Int):SS:=if k<key then ⟨21,s.c,s.lv,s.c,s.bf,s.af,s.fo⟩ else SS.ends ⟨s.pc,s.nd,s.lv,s.c,s.bf,s.af,if k=key∧s.fo=0 then s.c else s.fo⟩
def SS.ad(E:Ev)(s:SS):Nat:=if s.pc=21 then na E.l s.nd s.lv else ta E.l s.c
def SS.step(E:Ev)(s:SS)(key w:Int):SS:=if s.pc=21 then s.nx E w else if s.pc=22 then s.lk key w else s
structure rN(E:Ev)(s:SS):Prop where
 lv:s.lv<6
 bf:s.bf.length=6
 af:s.af.length=6
 pc:s.pc=0∨s.pc=21∨s.pc=22
 nd:s.pc≠0→Nd E.l E.V s.nd s.lv
 c:s.pc=22→ux E.l s.c∧(s.lv:Int)<hgt E.l s.c
def SS.new(v:Int):SS:=⟨21,-1-v,5,0,[0,0,0,0,0,0],[0,0,0,0,0,0],0⟩
section
variable {E:Ev} {s:SS} {key w v:Int}
theorem rN.new(hv:0≤v∧v<E.V):rN E (SS.new v):=
 ⟨show 5<6 by decide,rfl,rfl,.inr (.inl rfl),fun _=>⟨show (0:Int)≤((5:Nat):Int) by decide,.inl ⟨by show -1-v<0;omega,by show -1-(-1-v)<E.V;omega,show ((5:Nat):Int)<6 by decide⟩⟩,fun q=>absurd q (by show ¬(21:Int)=22;decide)⟩
theorem rN.ends{pc nd c fo:Int}{lv:Nat}{bf af:List Int}(hl:lv<6)(hb:bf.length=6)(ha:af.length=6)(hn:Nd E.l E.V nd lv):rN E (SS.ends ⟨pc,nd,lv,c,bf,af,fo⟩):=by
 refine⟨by show lv-1<6;omega,by show (bf.set lv nd).length=6;simpa using hb,by show (af.set lv c).length=6;simpa using ha,?_,fun q=>?_,fun q=>?_⟩
 ·by_cases c0:lv=0
  ·exact .inl (if_pos c0)
  ·exact .inr (.inl (if_neg c0))
 ·obtain⟨h0,h⟩:=hn;refine⟨by show (0:Int)≤((lv-1:Nat):Int);omega,?_⟩
  rcases h with h |h
  ·exact .inl ⟨h.1,h.2.1,by show ((lv-1:Nat):Int)<6;omega⟩
  ·exact .inr ⟨h.1,Int.lt_of_le_of_lt (show ((lv-1:Nat):Int)≤lv by omega) h.2⟩
 ·exfalso;have q':(if lv=0 then (0:Int) else 21)=22:=q;split at q'<;>omega
end
def Sd.ld(s:Sd)(th:Int)(a:Nat):Sd:=⟨s.W,s.L++gU th a 1 (vm s.W a) (vm s.W a) false,s.k+1,s.K⟩
section
variable {E:Ev} {a b:Sd} {d:Rl→Nat} {C:Rl→Option aj} {h:PT aj} {n:Nat}
theorem Xu(T:Tw E a b d C h n)(hka:a.k≤90000){th:Int}{i:Nat}(ht:0≤th∧th<64)(hi:i<E.sz):
  cE prog OB 163 [pt (d rM),I6 th,I6 i] h n fun v h' n'=>∃ d' C',v=iU [U6 (vm a.W i),I6 0]∧Nz n d C mA [(2,0)] d' C' h' n'∧Tw E (a.ld th i) b d' C' h' n':=by
 have U1:i<a.W.length:=by rw[T.la];exact hi
 obtain⟨stk,tag,X,xk,R,rk,M,B,Pk,I,EV⟩:=T.pg;refine(PZ T.st M qJ ht U1).mono ?_;rintro v h' n' ⟨d',C',rfl,N,M2⟩;refine⟨d',C',by rw[iJ U1],N,T.ZK (a':=a.ld th i) N qi qi (T.pg.mem (by rw[←iJ U1] at M2;exact M2) (fun r h1 h2 h3 h4=>⟨N.dd r fun q=>by simp at q;exact h4 (by rw[q]),N.cc r fun q=>by simp at q;rcases q with q |q |q<;>simp[q] at h2 h3 h4⟩) (N.dd rM qi) (by simp[Sd.ld]) (by simp[Sd.ld]) fun j h1 h2=>rfl)
   T.ua T.la⟩
end
end Go.Proofs.YtofmbmclopgldaaGreat
namespace Go.Proofs.YtofmbmclopgldaaGreat
open Go.Am
section
variable {E:Ev} {s:Sd} {d:Rl→Nat} {C:Rl→Option aj} {h:PT aj} {n:Nat}
end
end Go.Proofs.YtofmbmclopgldaaGreat
namespace Go.Proofs.YtofmbmclopgldaaGreat
open Go.Am Go.Proofs.Tryz
def zv(ws:List Int)(x:Int):List Int:=if ws.length<4∧0<x∧(ws.length=0∨ws.getD (ws.length-1) 0<x) then ws++[x] else ws
@[go_sem] theorem Vt{w:Bool}:xF (some dY) w=false:=rfl
abbrev xD:List Rl:=[(130,0),(131,0),(132,0)]
section
variable {d:Rl→Nat} {C:Rl→Option aj} {h h1:PT aj} {n n1:Nat}
theorem asH(S:St h n d C)(F:Fz h1 n1 d C)(hn:n1≤n){kd dn:Int}{s:Value}{xs:List Int}(hs:aN .u64 h1 s xs)(hl:xs.length<1000000000000000)(vC:0≤kd∧kd<256):
  cE prog OB 73 [.agg ⟨[U8 kd,I6 dn,s]⟩] h n fun v h' n'=>∃ d' C',Nz n d C xD xD d' C' h' n'∧(v = .agg ⟨[U8 1,I6 0,.slice none 0 0]⟩∨v = .agg ⟨[U8 2,I6 (1+bh dn 5),.slice none 0 0]⟩∨∃ ws:List Int,ws≠[]∧ws=xs.foldl zv []∧v = .agg ⟨[U8 3,I6 0,mkV (d' (132,0)) ws]⟩∧C' (132,0)=row (ws.map (.int .u64))):=by
 obtain⟨a,c,rfl,hX⟩:=hs.len;obtain⟨k1,k2⟩:=vC;have hm1:=Int.tmod_nonneg (3:Int) k1;have hm2:=Int.tmod_lt_of_pos kd (show (0:Int)<3 by decide);obtain⟨r1,r2⟩:=@cZ dn 5;refine ay (N:=63) func73 rfl rfl fun z hP hO hro hN hQ=>?_;by_cases c0:kd.tmod 3=0
 ·repeat' first|simp(disch:=try exact yj) only[go_sem, *] | (apply xs<;>intro _)<;>try omega
  exact⟨_,_,Nz.new (t:=131) (b:=0) qi qJ qJ (((S.junk (Nat.le_refl _) (Nat.lt_succ_self _)).new (131,0) _ (Nat.le_refl _) (Nat.lt_succ_self _)).re aq)⟩
 ·by_cases c1:kd.tmod 3=1
  ·repeat' first|simp(disch:=try exact yj) only[go_sem, *,jT] | (apply xs<;>intro _)<;>try omega
   exact⟨_,_,Nz.new (t:=131) (b:=0) qi qJ qJ (((S.junk (Nat.le_refl _) (Nat.lt_succ_self _)).new (131,0) _ (Nat.le_refl _) (Nat.lt_succ_self _)).re aq)⟩
  ·repeat' first|simp(disch:=try exact yj) only[go_sem, *] | (apply xs<;>intro _)<;>try omega
   obtain⟨d1,C1,N1,asI,asJ,asK,asL⟩:∃ d1 C1,Nz n d C xD xD d1 C1 ((h.set n (some (.cells (PT.ofList .leaf 0 [U8 kd,I6 dn,.slice a xs.length c]) false))).set (n+1) (some (.cells (PT.ofList .leaf 0 [.int .u8 0,.int .i64 0,.slice none 0 0]) false))) (n+1+1)∧d1 (130,0)=n∧d1 (131,0)=n+1∧C1 (130,0)=row [U8 kd,I6 dn,.slice a xs.length c]∧C1 (131,0)=row [.int .u8 0,.int .i64 0,.slice none 0 0]:=
    ⟨_,_,(Nz.new (t:=130) (b:=0) qi (Nat.le_refl _) (Nat.le_succ _) (S.new (130,0) _ (Nat.le_refl _) (Nat.lt_succ_self _))).trans (Nz.new (t:=131) (b:=0) qi (Nat.le_refl _) (Nat.le_succ _) ((S.new (130,0) _ (Nat.le_refl _) (Nat.lt_succ_self _)).new (131,0) _ (Nat.le_refl _) (Nat.lt_succ_self _))),(au qi).trans aq,aq,(au qi).trans aq,aq⟩
   refine a_ (fun t m h' n'=>∃ (i:Nat) (ws:List Int) (d':Rl→Nat) (C':Rl→Option aj),i≤xs.length∧t=xs.length-i∧Hid (ws=(xs.take i).foldl zv [])∧ws.length≤4∧m.n=63∧m.fF=[]∧m.get 1=pt n∧m.get 2=pt (n+1)∧m.get 3=mkV (d' (132,0)) ws∧m.get 4=I6 i∧Nz n d C xD xD d' C' h' n'∧d' (130,0)=n∧d' (131,0)=n+1∧C' (130,0)=row [U8 kd,I6 dn,.slice a xs.length c]∧C' (131,0)=row [.int .u8 0,.int .i64 0,.slice none 0 0]∧(0<ws.length→C' (132,0)=row (ws.map (.int .u64)))) xs.length ?_ ?_
   ·refine⟨0,[],d1,C1,by omega,by omega,⟨rfl⟩,by simp,?_⟩;clear hX;simp(disch:=try exact yj) only[go_sem, *];exact⟨rfl,fun q=>q.elim⟩
   ·clear N1 asI asJ asK asL;rintro t m h' n' ih ⟨i,ws,d',C',hi,rfl,hw,hw4,p1,p2,p3,p4,p5,p6,N,e1,e2,b1,b2,b3⟩;have g1:=N.st.at b1;have g2:=N.st.at b2;rw[e1] at g1;rw[e2] at g2;by_cases hlt:i<xs.length∧ws.length<4
    ·obtain⟨hlt,hw5⟩:=hlt;obtain⟨b,off,sp,L,ro,rfl,hgb,u_⟩:=hX i hlt;have kb:=((N.fz _ _ hn F).kept N.st) _ _ hgb;have hs1:(xs.take (i+1)).foldl zv []=zv ws (xs.getD i 0):=by
      rw[List.take_succ_eq_append_getElem hlt,List.foldl_append,←hw.h];simp[List.getD,hlt]
     have e7:(i:Int)<xs.length:=by omega
     have tM:Hid ((xs.take (i+1)).foldl zv []=zv ws (xs.getD i 0)):=⟨hs1⟩;clear hs1 hX;generalize xs.getD i 0=y at*;by_cases c2:ws.length=0
     ·obtain rfl:ws=[]:=List.length_eq_zero_iff.1 c2;rw[tH] at p5;by_cases c3:0<y
      ·have hct:zv [] y=[y]:=if_pos ⟨by simp,c3,.inl rfl⟩;rw[hct] at tM;clear hct
       repeat' first|simp(disch:=try exact yj) only[go_sem, *] | (apply xs<;>intro _)<;>try omega
       refine ih (xs.length-(i+1)) _ _ _ qJ ⟨i+1,[y],upd d' (132,0) (n'+1),upd C' (132,0) (row [U6 y]),by omega,rfl,⟨tM.h.symm⟩,by simp,?_⟩;clear ih;simp(disch:=try exact yj) only[go_sem, *];exact⟨by rw[aq];rfl,rfl,N.trans (Nz.new (t:=132) (b:=0) qi qJ qJ ((N.st.junk (Nat.le_refl _) (Nat.lt_succ_self _)).new (132,0) _ (Nat.le_refl _) (Nat.lt_succ_self _))),(au qi).trans e1,(au qi).trans e2,(au qi).trans b1,(au qi).trans b2,fun _=>aq⟩
      ·have hct:zv [] y=[]:=if_neg fun q=>c3 q.2.1;rw[hct] at tM;clear hct
       repeat' first|simp(disch:=try exact yj) only[go_sem, *] | (apply xs<;>intro _)<;>try omega
       refine ih (xs.length-(i+1)) _ _ _ qJ ⟨i+1,[],d',C',by omega,rfl,⟨tM.h.symm⟩,by simp,?_⟩;clear ih;simp(disch:=try exact yj) only[go_sem, *];exact⟨rfl,rfl,fun q=>q.elim⟩
     ·have hpos:0<ws.length:=by omega
      have b4:=b3 hpos;have g3:=N.st.at b4;have n3:=N.st.lt b4;have d31:=N.st.df b4 b1 qi;have d32:=N.st.df b4 b2 qi;rw[e1] at d31;rw[e2] at d32;rw[fS hpos] at p5;have e8:(ws.length:Int)<4:=by omega
      have e9: ¬ (ws.length:Int)=0:=by omega
      have PA:(ws.map (Value.int .u64))[ws.length-1]? = some (U6 (ws.getD (ws.length-1) 0)):=by rw[List.getElem?_map,List.getElem?_eq_getElem qJ];simp[List.getD,show ws.length-1<ws.length by omega]
      have hwi:((ws.length:Int)-1)=((ws.length-1:Nat):Int):=by omega
      have hml:(ws.map (Value.int .u64)).length=ws.length:=List.length_map _;have hsn:∀ g,mkV g (ws++[y]) = .slice (some ⟨g,0,none⟩) (ws.length+1) (aA+1):=fun g=>tI;have w9:zv ws y=if 0<y∧ws.getD (ws.length-1) 0<y then ws++[y] else ws:=by
       unfold zv;by_cases q:0<y∧ws.getD (ws.length-1) 0<y
       ·rw[if_pos q,if_pos ⟨hw5,q.1,.inr q.2⟩]
       ·rw[if_neg q,if_neg fun z=>q ⟨z.2.1,z.2.2.resolve_left c2⟩]
      generalize ws.getD (ws.length-1) 0=la at*;by_cases c3:0<y
      ·by_cases c4:la<y
       ·rw[w9,if_pos ⟨c3,c4⟩] at tM;clear w9
        repeat' first|simp(disch:=try exact yj) only[go_sem, *] | (apply xs<;>intro _)<;>try omega
        refine ih (xs.length-(i+1)) _ _ _ qJ ⟨i+1,ws++[y],upd d' (132,0) (n'+1),upd C' (132,0) (row (ws.map (.int .u64)++[U6 y])),by omega,rfl,⟨tM.h.symm⟩,by simp;omega,?_⟩;clear ih;simp(disch:=try exact yj) only[go_sem, *];exact⟨by rw[aq],rfl,N.trans (Nz.new (t:=132) (b:=0) qi qJ qJ ((((N.st.junk (Nat.le_refl _) (Nat.lt_succ_self _)).kill (132,0) b4 rfl).new (132,0) _ (Nat.le_refl _) (Nat.lt_succ_self _)).eq (by rw[gn]) rfl)),(au qi).trans e1,(au qi).trans e2,(au qi).trans b1,(au qi).trans b2,fun _=>by rw[List.map_append];exact aq⟩
       ·rw[w9,if_neg fun q=>c4 q.2] at tM;clear w9
        repeat' first|simp(disch:=try exact yj) only[go_sem, *] | (apply xs<;>intro _)<;>try omega
        refine ih (xs.length-(i+1)) _ _ _ qJ ⟨i+1,ws,d',C',by omega,rfl,⟨tM.h.symm⟩,hw4,?_⟩;clear ih;simp(disch:=try exact yj) only[go_sem, *];refine⟨(fS hpos).symm,?_⟩;first|rfl|exact b4|exact⟨rfl,b3⟩ |exact⟨rfl,fun q=>q⟩
      ·rw[w9,if_neg fun q=>c3 q.1] at tM;clear w9
       repeat' first|simp(disch:=try exact yj) only[go_sem, *] | (apply xs<;>intro _)<;>try omega
       refine ih (xs.length-(i+1)) _ _ _ qJ ⟨i+1,ws,d',C',by omega,rfl,⟨tM.h.symm⟩,hw4,?_⟩;clear ih;simp(disch:=try exact yj) only[go_sem, *];refine⟨(fS hpos).symm,?_⟩;first|rfl|exact b4|exact⟨rfl,b3⟩ |exact⟨rfl,fun q=>q⟩
    ·have XD:ws=xs.foldl zv []:=by
      by_cases q:i<xs.length
      ·have h4:ws.length=4:=by omega
       have hid:∀ l:List Int,l.foldl zv ws=ws:=fun l=>by
        induction l with
        |nil=>rfl
        |cons z l ih=>rw[List.foldl_cons,show zv ws z=ws from if_neg fun q=>absurd q.1 qJ];exact ih
       have:=hid (xs.drop i);rw[hw.h,←List.foldl_append,List.take_append_drop] at this;rw[hw.h];exact this.symm
      ·rw[hw.h,List.take_of_length_le qJ]
     have WV:Hid (ws=xs.foldl zv []):=⟨XD⟩;clear ih XD hw hX;by_cases c2:ws.length=0
     ·obtain rfl:ws=[]:=List.length_eq_zero_iff.1 c2;rw[tH] at p5;have e7: ¬ (i:Int)<xs.length:=fun q=>hlt ⟨by omega,by simp⟩
      repeat' first|simp(disch:=try exact yj) only[go_sem, *] | (apply xs<;>intro _)<;>try omega
      exact⟨d',_,N.trans (Nz.set (t:=131) (b:=0) qi b2 (N.st.set (131,0) _ b2 e2))⟩
     ·have hpos:0<ws.length:=by omega
      rw[fS hpos] at p5;have e9: ¬ (ws.length:Int)=0:=by omega
      by_cases q:i<xs.length
      ·have e7:(i:Int)<xs.length:=by omega
       have e8: ¬ (ws.length:Int)<4:=by omega
       repeat' first|simp(disch:=try exact yj) only[go_sem, *] | (apply xs<;>intro _)<;>try omega
       exact⟨d',_,N.trans (Nz.set (t:=131) (b:=0) qi b2 (N.st.set (131,0) _ b2 e2)),.inr (.inr ⟨ws,fun z=>c2 (by rw[z];rfl),WV.h,by rw[fS hpos],(au qi).trans (b3 hpos)⟩)⟩
      ·have e7: ¬ (i:Int)<xs.length:=by omega
       repeat' first|simp(disch:=try exact yj) only[go_sem, *] | (apply xs<;>intro _)<;>try omega
       exact⟨d',_,N.trans (Nz.set (t:=131) (b:=0) qi b2 (N.st.set (131,0) _ b2 e2)),.inr (.inr ⟨ws,fun z=>c2 (by rw[z];rfl),WV.h,by rw[fS hpos],(au qi).trans (b3 hpos)⟩)⟩
end
end Go.Proofs.YtofmbmclopgldaaGreat
namespace Go.Proofs.YtofmbmclopgldaaGreat
open Go.Am Go.Proofs.Tryz
def fnV(b:Nat)(pc:Int):Value:=if pc=21 then .func (.func 81) ⟨[pt b]⟩ ⟨[]⟩ else if pc=22 then .func (.func 166) ⟨[pt b]⟩ ⟨[]⟩ else .nilFunc
theorem QJ{b:Nat}:fnV b 21 = .func (.func 81) ⟨[pt b]⟩ ⟨[]⟩:=rfl
theorem QK{b:Nat}:fnV b 22 = .func (.func 166) ⟨[pt b]⟩ ⟨[]⟩:=rfl
theorem ahj{b:Nat}:fnV b 0 = .nilFunc:=rfl
abbrev kV(mV b:Nat)(th key:Int)(s:SS):List Value:=[pt mV,I6 th,U6 key,I6 s.nd,I6 s.lv,I6 s.c]++(s.bf.map (.int .i64)++(s.af.map (.int .i64)++[I6 s.fo,U8 s.pc,fnV b s.pc]))
theorem six{l:List Int}(h:l.length=6):∃ a b c d e f,l=[a,b,c,d,e,f]:=by
 match l,h with
 | [a,b,c,d,e,f],_=>exact⟨a,b,c,d,e,f,rfl⟩
theorem QL{r:Rl}(h:r∈mA):r.1<200:=by
 simp only[List.mem_cons,List.not_mem_nil,or_false] at h
 rcases h with rfl|rfl|rfl<;>decide
theorem CG{r:Rl}(h:200≤r.1∧r.1≤9000):(r.1∉sA∧r.1∉sB)∧r.1≠9998:=by
 refine⟨⟨fun q=>?_,fun q=>?_⟩,by omega⟩
 ·simp only[List.mem_cons,List.not_mem_nil,or_false] at q;omega
 ·simp only[List.mem_cons,List.not_mem_nil,or_false] at q;omega
section
variable {E:Ev} {a b:Sd} {d:Rl→Nat} {C:Rl→Option aj} {h:PT aj} {n:Nat}
theorem aay(T:Tw E a b d C h n)(hk:a.k≤80000){r:Rl}(hr:200≤r.1∧r.1≤9000){th key:Int}{s:SS}(hs:rN E s)(hth:0≤th∧th<64)(hkey:0≤key∧key<18446744073709551616)(c:C r=row (kV (d (70,0)) (d r) th key s)):
  cE prog OB 33 [pt (d r)] h n fun v h' n'=>v=iU [U8 s.pc,.bool (decide (s.pc≠0∧(s.step E key (vm a.W (s.ad E))).pc=0))]∧∃ d' C',Nz n d C (r::mA) [(2,0)] d' C' h' n'∧C' r=row (kV (d (70,0)) (d r) th key (s.step E key (vm a.W (s.ad E))))∧
   Tw E (if s.pc=0 then a else a.ld th (s.ad E)) b d' C' h' n':=by
 obtain⟨stk,tag,X,xk,R,rk,M,B,Pk,I,EV⟩:=T.pg;have mV:=B.base;have FA:=T.st.at mV;have gr:=T.st.at c;have K:=T.fz.kept T.st;have Wf:=T.fz.wf;have n1n:=T.le;have hl0:=T.ok.look;have hrl:=fun h' hk z f d ops r K m n=>@cw _ _ _ _ h' hl0 z f d ops r K m n hk;have Co:=fun h' hk z L f d ops r K m n lo rd wr fs=>@eT _ _ _ _ h' hl0 z L f d ops r K m n lo rd wr fs hk;have Ia:=fun h' lo hi hk hl=>@kP _ _ _ _ h' _ lo hi hl0 Wf hk hl;have aHi:=T.st.df c mV (fun q=>by subst q;simp at hr);obtain⟨pc,nd,lv,cn,bf,af,fo⟩:=s;obtain⟨h1,h2,h3,h4,h5,h6⟩:=hs;obtain⟨x0,x1,x2,x3,x4,x5,rfl⟩:=six h2;obtain⟨y0,y1,y2,y3,y4,y5,rfl⟩:=six h3;simp only at h1 h4 h5 h6
 rcases h4 with rfl|rfl|rfl
 ·simp only[kV,ahj,List.map_cons,List.map_nil,List.cons_append,List.nil_append] at gr;refine ay (N:=23) func33 rfl rfl fun z hP hO hro hN hQ=>?_
  repeat' first|simp(disch:=try exact yj) only[go_sem, *] | (apply xs<;>intro _)<;>try omega|refine fun (_ _:List Nat)=>?_
  exact⟨d,C,Nz.refl T.st,c,T⟩
 ·simp only[kV,QJ,List.map_cons,List.map_nil,List.cons_append,List.nil_append] at gr;have hnd:=h5 qi;have en:=T.ok.num.nxt hnd;have hR:=(T.ok.num.naR hnd).2;have ld:=Xu T qJ hth hR;have hwu:=tq T.ua (na E.l nd lv:Int);have ha:SS.ad E ⟨21,nd,lv,cn,[x0,x1,x2,x3,x4,x5],[y0,y1,y2,y3,y4,y5],fo⟩=na E.l nd lv:=if_pos rfl;have hst:∀ w,SS.step E ⟨21,nd,lv,cn,[x0,x1,x2,x3,x4,x5],[y0,y1,y2,y3,y4,y5],fo⟩ key w=SS.nx E ⟨21,nd,lv,cn,[x0,x1,x2,x3,x4,x5],[y0,y1,y2,y3,y4,y5],fo⟩ w:=fun w=>if_pos rfl;simp only[ha,hst];rw[if_neg (show ¬(21:Int)=0 by decide)];clear ha hst;generalize hna:na E.l nd lv=ad at*;generalize vm a.W ad=w at*;clear h5 h6 hl0 h2 h3;refine ay (N:=23) func33 rfl rfl fun z hP hO hro hN hQ=>?_
  repeat' first|simp(disch:=try exact yj) only[go_sem, *,AH,j5] | (apply xs<;>intro _)<;>try omega | ((with_reducible refine b8 1 ?_);refine dw 55 1 aoH (by first | (simp only[go_sem, *];done)|rfl) (by kernel_rfl) (by kernel_rfl) ?_) | ((with_reducible refine b8 2 ?_);refine dw 55 2 aoI (by first | (simp only[go_sem, *];done)|rfl) (by kernel_rfl) (by kernel_rfl) ?_)|refine fun (_ _:List Nat)=>?_ | (first|refine bD func81 rfl ?_ ?_ ?_ ?_ |fail)<;>intros
  refine jg (ld) ?_;rintro y h3 n3 ⟨d3,C3,rfl,N3,T3⟩;intro rd wr;have nr:r∉mA:=fun q=>by have:=QL q;omega
  have QM:r∉[((2:Nat),(0:Nat))]:=fun q=>by have:=List.mem_singleton.1 q;subst this;simp at hr
  have c3:=(N3.cc r nr).trans c;have e3:=N3.dd r QM;have g3:=T3.st.at c3;rw[e3] at g3;simp only[kV,QJ,List.map_cons,List.map_nil,List.cons_append,List.nil_append] at g3;have FA:=T3.st.at ((N3.cc (70,0) qi).trans mV);rw[N3.dd (70,0) qi] at FA;have K3:=T3.fz.kept T3.st;have iK:Hid (∀ (s':SS) (h':PT aj),h'=h3.set (d r) (row (kV (d (70,0)) (d r) th key s'))→∃ d' C',Nz n d C (r::mA) [(2,0)] d' C' h' n3∧C' r=row (kV (d (70,0)) (d r) th key s')∧Tw E (a.ld th ad) b d' C' h' n3):=⟨fun s' h' e1=>by
   subst e1;have N4:Nz n3 d3 C3 [r] [] d3 (upd C3 r (row (kV (d (70,0)) (d r) th key s'))) (h3.set (d r) (row (kV (d (70,0)) (d r) th key s'))) n3:=Nz.set (t:=r.1) (b:=r.2) qJ c3 (T3.st.set r _ c3 e3) (by simp);exact⟨_,_,(N3.sub (by simp) (by simp)).trans (N4.sub (by simp) (by simp)),aq,T3.own N4 (fun q hq=>by have:=List.mem_singleton.1 hq;subst this;exact CG hr) (by simp)⟩⟩
  clear ld gr K nr QM N3 T3 c3 c hna hR M B Pk I EV mV;have IZ:=T.ok.hlen;have hHw:IntKind.u64.wrap (E.l.H.length:Int)=E.l.H.length:=wrap_u64 qJ qJ;have hgA:∀ w,ux E.l w→qx E.l.H w=hgt E.l w:=fun w q=>if_pos q;have hgE:∀ w,ux E.l w→yC E.l.H w=0:=fun w q=>if_pos q;by_cases hT:ux E.l w
  ·have a1:=hgA w hT;have a2:=hgE w hT;obtain⟨t1,t2⟩:=hT;clear hgA hgE;have b1: ¬ w=0:=by omega
   have b2: ¬ (E.l.H.length:Int)<w:=by omega
   have hwi:IntKind.i64.wrap w=w:=wrap_i64 qJ qJ;by_cases hl:(lv:Int)<hgt E.l w
   ·have hnm:Jt E w lv=w:=if_pos ⟨⟨t1,t2⟩,hl⟩;have hn0: ¬ Jt E w lv=0:=by omega
    have hr:SS.nx E ⟨21,nd,lv,cn,[x0,x1,x2,x3,x4,x5],[y0,y1,y2,y3,y4,y5],fo⟩ w=⟨22,nd,lv,w,[x0,x1,x2,x3,x4,x5],[y0,y1,y2,y3,y4,y5],fo⟩:=by
     unfold SS.nx;rw[if_neg hn0,hnm]
    rw[hr] at hQ;clear hr hnm hn0
    repeat' first|simp(disch:=try exact yj) only[go_sem, *,cu,cT,dR] | (apply xs<;>intro _)<;>try omega|refine fun (_ _:List Nat)=>?_ | (first|refine bD func164 rfl ?_ ?_ ?_ ?_ |refine bD func80 rfl ?_ ?_ ?_ ?_ |fail)<;>intros
    refine iK.h ⟨22,nd,lv,w,[x0,x1,x2,x3,x4,x5],[y0,y1,y2,y3,y4,y5],fo⟩ _ ?_;rw[PT.set_set,PT.set_set];rfl
   ·have hnm:Jt E w lv=0:=if_neg fun q=>hl q.2;have b3:hgt E.l w≤lv:=by omega
    have hr:SS.nx E ⟨21,nd,lv,cn,[x0,x1,x2,x3,x4,x5],[y0,y1,y2,y3,y4,y5],fo⟩ w=SS.ends ⟨21,nd,lv,0,[x0,x1,x2,x3,x4,x5],[y0,y1,y2,y3,y4,y5],fo⟩:=by
     unfold SS.nx;rw[if_pos hnm]
    clear hnm;by_cases hl0:lv=0
    ·subst hl0;rw[hr,show SS.ends ⟨21,nd,0,0,[x0,x1,x2,x3,x4,x5],[y0,y1,y2,y3,y4,y5],fo⟩=⟨0,nd,0,0,[nd,x1,x2,x3,x4,x5],[0,y1,y2,y3,y4,y5],fo⟩ from rfl] at hQ;clear hr
     repeat' first|simp(disch:=try exact yj) only[go_sem, *,cu,cT,dR] | (apply xs<;>intro _)<;>try omega | ((with_reducible refine b8 1 ?_);refine dw 45 1 I3 (by first | (simp only[go_sem, *];done)|rfl) (by kernel_rfl) (by kernel_rfl) ?_) | ((with_reducible refine b8 2 ?_);refine dw 45 2 I4 (by first | (simp only[go_sem, *];done)|rfl) (by kernel_rfl) (by kernel_rfl) ?_)|refine fun (_ _:List Nat)=>?_ | (first|refine bD func164 rfl ?_ ?_ ?_ ?_ |refine bD func165 rfl ?_ ?_ ?_ ?_ |refine bD func80 rfl ?_ ?_ ?_ ?_ |fail)<;>intros
     refine iK.h ⟨0,nd,0,0,[nd,x1,x2,x3,x4,x5],[0,y1,y2,y3,y4,y5],fo⟩ _ ?_
     repeat rw[PT.set_set]
     rfl
    ·rw[hr,show SS.ends ⟨21,nd,lv,0,[x0,x1,x2,x3,x4,x5],[y0,y1,y2,y3,y4,y5],fo⟩=⟨21,nd,lv-1,0,[x0,x1,x2,x3,x4,x5].set lv nd,[y0,y1,y2,y3,y4,y5].set lv 0,fo⟩ by unfold SS.ends;rw[if_neg hl0]] at hQ;clear hr
     repeat' first|simp(disch:=try exact yj) only[go_sem, *,cu,cT,dR,List.getElem?_set_ne,List.length_set] | (apply xs<;>intro _)<;>try omega | ((with_reducible refine b8 1 ?_);refine dw 45 1 I3 (by first | (simp only[go_sem, *];done)|rfl) (by kernel_rfl) (by kernel_rfl) ?_) | ((with_reducible refine b8 2 ?_);refine dw 45 2 I4 (by first | (simp only[go_sem, *];done)|rfl) (by kernel_rfl) (by kernel_rfl) ?_)|refine fun (_ _:List Nat)=>?_ | (first|refine bD func164 rfl ?_ ?_ ?_ ?_ |refine bD func165 rfl ?_ ?_ ?_ ?_ |refine bD func80 rfl ?_ ?_ ?_ ?_ |fail)<;>intros
     refine iK.h ⟨21,nd,lv-1,0,[x0,x1,x2,x3,x4,x5].set lv nd,[y0,y1,y2,y3,y4,y5].set lv 0,fo⟩ _ ?_
     repeat rw[PT.set_set]
     have h5:lv=1∨lv=2∨lv=3∨lv=4∨lv=5:=by omega
     rcases h5 with rfl|rfl|rfl|rfl|rfl<;>rfl
  ·have hnm:Jt E w lv=0:=if_neg fun q=>hT q.1;have hr:SS.nx E ⟨21,nd,lv,cn,[x0,x1,x2,x3,x4,x5],[y0,y1,y2,y3,y4,y5],fo⟩ w=SS.ends ⟨21,nd,lv,0,[x0,x1,x2,x3,x4,x5],[y0,y1,y2,y3,y4,y5],fo⟩:=by
    unfold SS.nx;rw[if_pos hnm]
   have b2:w=0∨(E.l.H.length:Int)<w:=by unfold ux at hT;omega
   clear hnm hgA hgE hT
   rcases b2 with rfl |b2
   ·by_cases hl0:lv=0
    ·subst hl0;rw[hr,show SS.ends ⟨21,nd,0,0,[x0,x1,x2,x3,x4,x5],[y0,y1,y2,y3,y4,y5],fo⟩=⟨0,nd,0,0,[nd,x1,x2,x3,x4,x5],[0,y1,y2,y3,y4,y5],fo⟩ from rfl] at hQ;clear hr
     repeat' first|simp(disch:=try exact yj) only[go_sem, *,cu,cT,dR] | (apply xs<;>intro _)<;>try omega | ((with_reducible refine b8 1 ?_);refine dw 45 1 I3 (by first | (simp only[go_sem, *];done)|rfl) (by kernel_rfl) (by kernel_rfl) ?_) | ((with_reducible refine b8 2 ?_);refine dw 45 2 I4 (by first | (simp only[go_sem, *];done)|rfl) (by kernel_rfl) (by kernel_rfl) ?_)|refine fun (_ _:List Nat)=>?_ | (first|refine bD func164 rfl ?_ ?_ ?_ ?_ |refine bD func165 rfl ?_ ?_ ?_ ?_ |refine bD func80 rfl ?_ ?_ ?_ ?_ |fail)<;>intros
     refine iK.h ⟨0,nd,0,0,[nd,x1,x2,x3,x4,x5],[0,y1,y2,y3,y4,y5],fo⟩ _ ?_
     repeat rw[PT.set_set]
     rfl
    ·rw[hr,show SS.ends ⟨21,nd,lv,0,[x0,x1,x2,x3,x4,x5],[y0,y1,y2,y3,y4,y5],fo⟩=⟨21,nd,lv-1,0,[x0,x1,x2,x3,x4,x5].set lv nd,[y0,y1,y2,y3,y4,y5].set lv 0,fo⟩ by unfold SS.ends;rw[if_neg hl0]] at hQ;clear hr
     repeat' first|simp(disch:=try exact yj) only[go_sem, *,cu,cT,dR,List.getElem?_set_ne,List.length_set] | (apply xs<;>intro _)<;>try omega | ((with_reducible refine b8 1 ?_);refine dw 45 1 I3 (by first | (simp only[go_sem, *];done)|rfl) (by kernel_rfl) (by kernel_rfl) ?_) | ((with_reducible refine b8 2 ?_);refine dw 45 2 I4 (by first | (simp only[go_sem, *];done)|rfl) (by kernel_rfl) (by kernel_rfl) ?_)|refine fun (_ _:List Nat)=>?_ | (first|refine bD func164 rfl ?_ ?_ ?_ ?_ |refine bD func165 rfl ?_ ?_ ?_ ?_ |refine bD func80 rfl ?_ ?_ ?_ ?_ |fail)<;>intros
     refine iK.h ⟨21,nd,lv-1,0,[x0,x1,x2,x3,x4,x5].set lv nd,[y0,y1,y2,y3,y4,y5].set lv 0,fo⟩ _ ?_
     repeat rw[PT.set_set]
     have h5:lv=1∨lv=2∨lv=3∨lv=4∨lv=5:=by omega
     rcases h5 with rfl|rfl|rfl|rfl|rfl<;>rfl
   ·have b1: ¬ w=0:=by omega
    by_cases hl0:lv=0
    ·subst hl0;rw[hr,show SS.ends ⟨21,nd,0,0,[x0,x1,x2,x3,x4,x5],[y0,y1,y2,y3,y4,y5],fo⟩=⟨0,nd,0,0,[nd,x1,x2,x3,x4,x5],[0,y1,y2,y3,y4,y5],fo⟩ from rfl] at hQ;clear hr
     repeat' first|simp(disch:=try exact yj) only[go_sem, *,cu,cT,dR] | (apply xs<;>intro _)<;>try omega | ((with_reducible refine b8 1 ?_);refine dw 45 1 I3 (by first | (simp only[go_sem, *];done)|rfl) (by kernel_rfl) (by kernel_rfl) ?_) | ((with_reducible refine b8 2 ?_);refine dw 45 2 I4 (by first | (simp only[go_sem, *];done)|rfl) (by kernel_rfl) (by kernel_rfl) ?_)|refine fun (_ _:List Nat)=>?_ | (first|refine bD func164 rfl ?_ ?_ ?_ ?_ |refine bD func165 rfl ?_ ?_ ?_ ?_ |refine bD func80 rfl ?_ ?_ ?_ ?_ |fail)<;>intros
     refine iK.h ⟨0,nd,0,0,[nd,x1,x2,x3,x4,x5],[0,y1,y2,y3,y4,y5],fo⟩ _ ?_
     repeat rw[PT.set_set]
     rfl
    ·rw[hr,show SS.ends ⟨21,nd,lv,0,[x0,x1,x2,x3,x4,x5],[y0,y1,y2,y3,y4,y5],fo⟩=⟨21,nd,lv-1,0,[x0,x1,x2,x3,x4,x5].set lv nd,[y0,y1,y2,y3,y4,y5].set lv 0,fo⟩ by unfold SS.ends;rw[if_neg hl0]] at hQ;clear hr
     repeat' first|simp(disch:=try exact yj) only[go_sem, *,cu,cT,dR,List.getElem?_set_ne,List.length_set] | (apply xs<;>intro _)<;>try omega | ((with_reducible refine b8 1 ?_);refine dw 45 1 I3 (by first | (simp only[go_sem, *];done)|rfl) (by kernel_rfl) (by kernel_rfl) ?_) | ((with_reducible refine b8 2 ?_);refine dw 45 2 I4 (by first | (simp only[go_sem, *];done)|rfl) (by kernel_rfl) (by kernel_rfl) ?_)|refine fun (_ _:List Nat)=>?_ | (first|refine bD func164 rfl ?_ ?_ ?_ ?_ |refine bD func165 rfl ?_ ?_ ?_ ?_ |refine bD func80 rfl ?_ ?_ ?_ ?_ |fail)<;>intros
     refine iK.h ⟨21,nd,lv-1,0,[x0,x1,x2,x3,x4,x5].set lv nd,[y0,y1,y2,y3,y4,y5].set lv 0,fo⟩ _ ?_
     repeat rw[PT.set_set]
     have h5:lv=1∨lv=2∨lv=3∨lv=4∨lv=5:=by omega
     rcases h5 with rfl|rfl|rfl|rfl|rfl<;>rfl
 ·simp only[kV,QK,List.map_cons,List.map_nil,List.cons_append,List.nil_append] at gr;have hnd:=h5 qi;have hC:=h6 rfl;have ew:=T.ok.num.wrd hC.1 (w:=0) qi;have Mb:=T.ok.num.vh hC.1;have hR:ta E.l cn<E.sz:=by omega
  have ld:=Xu T qJ hth hR;have hwu:=tq T.ua (ta E.l cn:Int);have ha:SS.ad E ⟨22,nd,lv,cn,[x0,x1,x2,x3,x4,x5],[y0,y1,y2,y3,y4,y5],fo⟩=ta E.l cn:=if_neg (show ¬(22:Int)=21 by decide);have hst:∀ w,SS.step E ⟨22,nd,lv,cn,[x0,x1,x2,x3,x4,x5],[y0,y1,y2,y3,y4,y5],fo⟩ key w=SS.lk ⟨22,nd,lv,cn,[x0,x1,x2,x3,x4,x5],[y0,y1,y2,y3,y4,y5],fo⟩ key w:=fun w=>(if_neg (show ¬(22:Int)=21 by decide)).trans (if_pos rfl);simp only[ha,hst];rw[if_neg (show ¬(22:Int)=0 by decide)];rw[Int.add_zero] at ew;clear ha hst Mb;obtain⟨⟨t1,t2⟩,t3⟩:=hC;generalize hna:ta E.l cn=ad at*;generalize vm a.W ad=w at*;clear h5 h6 hl0 h2 h3;refine ay (N:=23) func33 rfl rfl fun z hP hO hro hN hQ=>?_
  repeat' first|simp(disch:=try exact yj) only[go_sem, *,yD,og] | (apply xs<;>intro _)<;>try omega | ((with_reducible refine b8 1 ?_);refine dw 73 1 aga (by first | (simp only[go_sem, *];done)|rfl) (by kernel_rfl) (by kernel_rfl) ?_) | ((with_reducible refine b8 2 ?_);refine dw 73 2 agd (by first | (simp only[go_sem, *];done)|rfl) (by kernel_rfl) (by kernel_rfl) ?_)|refine fun (_ _:List Nat)=>?_ | (first|refine bD func166 rfl ?_ ?_ ?_ ?_ |fail)<;>intros
  refine jg (ld) ?_;rintro y h3 n3 ⟨d3,C3,rfl,N3,T3⟩;intro rd wr;have nr:r∉mA:=fun q=>by have:=QL q;omega
  have QM:r∉[((2:Nat),(0:Nat))]:=fun q=>by have:=List.mem_singleton.1 q;subst this;simp at hr
  have c3:=(N3.cc r nr).trans c;have e3:=N3.dd r QM;have g3:=T3.st.at c3;rw[e3] at g3;simp only[kV,QK,List.map_cons,List.map_nil,List.cons_append,List.nil_append] at g3;have FA:=T3.st.at ((N3.cc (70,0) qi).trans mV);rw[N3.dd (70,0) qi] at FA;have K3:=T3.fz.kept T3.st;have iK:Hid (∀ (s':SS) (h':PT aj),h'=h3.set (d r) (row (kV (d (70,0)) (d r) th key s'))→∃ d' C',Nz n d C (r::mA) [(2,0)] d' C' h' n3∧C' r=row (kV (d (70,0)) (d r) th key s')∧Tw E (a.ld th ad) b d' C' h' n3):=⟨fun s' h' e1=>by
   subst e1;have N4:Nz n3 d3 C3 [r] [] d3 (upd C3 r (row (kV (d (70,0)) (d r) th key s'))) (h3.set (d r) (row (kV (d (70,0)) (d r) th key s'))) n3:=Nz.set (t:=r.1) (b:=r.2) qJ c3 (T3.st.set r _ c3 e3) (by simp);exact⟨_,_,(N3.sub (by simp) (by simp)).trans (N4.sub (by simp) (by simp)),aq,T3.own N4 (fun q hq=>by have:=List.mem_singleton.1 hq;subst this;exact CG hr) (by simp)⟩⟩
  clear ld gr K nr QM N3 T3 c3 c hna hR M B Pk I EV mV;by_cases hlt:w<key
  ·rw[show SS.lk ⟨22,nd,lv,cn,[x0,x1,x2,x3,x4,x5],[y0,y1,y2,y3,y4,y5],fo⟩ key w=⟨21,cn,lv,cn,[x0,x1,x2,x3,x4,x5],[y0,y1,y2,y3,y4,y5],fo⟩ from if_pos hlt] at hQ
   repeat' first|simp(disch:=try exact yj) only[go_sem, *] | (apply xs<;>intro _)<;>try omega|refine fun (_ _:List Nat)=>?_ | (first|refine bD func80 rfl ?_ ?_ ?_ ?_ |fail)<;>intros
   refine iK.h ⟨21,cn,lv,cn,[x0,x1,x2,x3,x4,x5],[y0,y1,y2,y3,y4,y5],fo⟩ _ ?_
   repeat rw[PT.set_set]
   rfl
  ·have jk:SS.lk ⟨22,nd,lv,cn,[x0,x1,x2,x3,x4,x5],[y0,y1,y2,y3,y4,y5],fo⟩ key w=SS.ends ⟨22,nd,lv,cn,[x0,x1,x2,x3,x4,x5],[y0,y1,y2,y3,y4,y5],if w=key∧fo=0 then cn else fo⟩:=if_neg hlt;by_cases he:w=key
   ·by_cases hf:fo=0
    ·have hr:=jk;rw[if_pos ⟨he,hf⟩] at hr;clear jk;by_cases hl0:lv=0
     ·subst hl0;rw[hr,show SS.ends ⟨22,nd,0,cn,[x0,x1,x2,x3,x4,x5],[y0,y1,y2,y3,y4,y5],cn⟩=⟨0,nd,0,cn,[nd,x1,x2,x3,x4,x5],[cn,y1,y2,y3,y4,y5],cn⟩ from rfl] at hQ;clear hr
      repeat' first|simp(disch:=try exact yj) only[go_sem, *,cu,cT,dR] | (apply xs<;>intro _)<;>try omega | ((with_reducible refine b8 1 ?_);refine dw 45 1 I3 (by first | (simp only[go_sem, *];done)|rfl) (by kernel_rfl) (by kernel_rfl) ?_) | ((with_reducible refine b8 2 ?_);refine dw 45 2 I4 (by first | (simp only[go_sem, *];done)|rfl) (by kernel_rfl) (by kernel_rfl) ?_)|refine fun (_ _:List Nat)=>?_ | (first|refine bD func165 rfl ?_ ?_ ?_ ?_ |refine bD func80 rfl ?_ ?_ ?_ ?_ |fail)<;>intros
      refine iK.h ⟨0,nd,0,cn,[nd,x1,x2,x3,x4,x5],[cn,y1,y2,y3,y4,y5],cn⟩ _ ?_
      repeat rw[PT.set_set]
      rfl
     ·rw[hr,show SS.ends ⟨22,nd,lv,cn,[x0,x1,x2,x3,x4,x5],[y0,y1,y2,y3,y4,y5],cn⟩=⟨21,nd,lv-1,cn,[x0,x1,x2,x3,x4,x5].set lv nd,[y0,y1,y2,y3,y4,y5].set lv cn,cn⟩ by unfold SS.ends;rw[if_neg hl0]] at hQ;clear hr
      repeat' first|simp(disch:=try exact yj) only[go_sem, *,cu,cT,dR,List.getElem?_set_ne,List.length_set] | (apply xs<;>intro _)<;>try omega | ((with_reducible refine b8 1 ?_);refine dw 45 1 I3 (by first | (simp only[go_sem, *];done)|rfl) (by kernel_rfl) (by kernel_rfl) ?_) | ((with_reducible refine b8 2 ?_);refine dw 45 2 I4 (by first | (simp only[go_sem, *];done)|rfl) (by kernel_rfl) (by kernel_rfl) ?_)|refine fun (_ _:List Nat)=>?_ | (first|refine bD func165 rfl ?_ ?_ ?_ ?_ |refine bD func80 rfl ?_ ?_ ?_ ?_ |fail)<;>intros
      refine iK.h ⟨21,nd,lv-1,cn,[x0,x1,x2,x3,x4,x5].set lv nd,[y0,y1,y2,y3,y4,y5].set lv cn,cn⟩ _ ?_
      repeat rw[PT.set_set]
      have h5:lv=1∨lv=2∨lv=3∨lv=4∨lv=5:=by omega
      rcases h5 with rfl|rfl|rfl|rfl|rfl<;>rfl
    ·have hr:=jk;rw[if_neg fun q=>hf q.2] at hr;clear jk;by_cases hl0:lv=0
     ·subst hl0;rw[hr,show SS.ends ⟨22,nd,0,cn,[x0,x1,x2,x3,x4,x5],[y0,y1,y2,y3,y4,y5],fo⟩=⟨0,nd,0,cn,[nd,x1,x2,x3,x4,x5],[cn,y1,y2,y3,y4,y5],fo⟩ from rfl] at hQ;clear hr
      repeat' first|simp(disch:=try exact yj) only[go_sem, *,cu,cT,dR] | (apply xs<;>intro _)<;>try omega | ((with_reducible refine b8 1 ?_);refine dw 45 1 I3 (by first | (simp only[go_sem, *];done)|rfl) (by kernel_rfl) (by kernel_rfl) ?_) | ((with_reducible refine b8 2 ?_);refine dw 45 2 I4 (by first | (simp only[go_sem, *];done)|rfl) (by kernel_rfl) (by kernel_rfl) ?_)|refine fun (_ _:List Nat)=>?_ | (first|refine bD func165 rfl ?_ ?_ ?_ ?_ |refine bD func80 rfl ?_ ?_ ?_ ?_ |fail)<;>intros
      refine iK.h ⟨0,nd,0,cn,[nd,x1,x2,x3,x4,x5],[cn,y1,y2,y3,y4,y5],fo⟩ _ ?_
      repeat rw[PT.set_set]
      rfl
     ·rw[hr,show SS.ends ⟨22,nd,lv,cn,[x0,x1,x2,x3,x4,x5],[y0,y1,y2,y3,y4,y5],fo⟩=⟨21,nd,lv-1,cn,[x0,x1,x2,x3,x4,x5].set lv nd,[y0,y1,y2,y3,y4,y5].set lv cn,fo⟩ by unfold SS.ends;rw[if_neg hl0]] at hQ;clear hr
      repeat' first|simp(disch:=try exact yj) only[go_sem, *,cu,cT,dR,List.getElem?_set_ne,List.length_set] | (apply xs<;>intro _)<;>try omega | ((with_reducible refine b8 1 ?_);refine dw 45 1 I3 (by first | (simp only[go_sem, *];done)|rfl) (by kernel_rfl) (by kernel_rfl) ?_) | ((with_reducible refine b8 2 ?_);refine dw 45 2 I4 (by first | (simp only[go_sem, *];done)|rfl) (by kernel_rfl) (by kernel_rfl) ?_)|refine fun (_ _:List Nat)=>?_ | (first|refine bD func165 rfl ?_ ?_ ?_ ?_ |refine bD func80 rfl ?_ ?_ ?_ ?_ |fail)<;>intros
      refine iK.h ⟨21,nd,lv-1,cn,[x0,x1,x2,x3,x4,x5].set lv nd,[y0,y1,y2,y3,y4,y5].set lv cn,fo⟩ _ ?_
      repeat rw[PT.set_set]
      have h5:lv=1∨lv=2∨lv=3∨lv=4∨lv=5:=by omega
      rcases h5 with rfl|rfl|rfl|rfl|rfl<;>rfl
   ·have hr:=jk;rw[if_neg fun q=>he q.1] at hr;clear jk;by_cases hl0:lv=0
    ·subst hl0;rw[hr,show SS.ends ⟨22,nd,0,cn,[x0,x1,x2,x3,x4,x5],[y0,y1,y2,y3,y4,y5],fo⟩=⟨0,nd,0,cn,[nd,x1,x2,x3,x4,x5],[cn,y1,y2,y3,y4,y5],fo⟩ from rfl] at hQ;clear hr
     repeat' first|simp(disch:=try exact yj) only[go_sem, *,cu,cT,dR] | (apply xs<;>intro _)<;>try omega | ((with_reducible refine b8 1 ?_);refine dw 45 1 I3 (by first | (simp only[go_sem, *];done)|rfl) (by kernel_rfl) (by kernel_rfl) ?_) | ((with_reducible refine b8 2 ?_);refine dw 45 2 I4 (by first | (simp only[go_sem, *];done)|rfl) (by kernel_rfl) (by kernel_rfl) ?_)|refine fun (_ _:List Nat)=>?_ | (first|refine bD func165 rfl ?_ ?_ ?_ ?_ |refine bD func80 rfl ?_ ?_ ?_ ?_ |fail)<;>intros
     refine iK.h ⟨0,nd,0,cn,[nd,x1,x2,x3,x4,x5],[cn,y1,y2,y3,y4,y5],fo⟩ _ ?_
     repeat rw[PT.set_set]
     rfl
    ·rw[hr,show SS.ends ⟨22,nd,lv,cn,[x0,x1,x2,x3,x4,x5],[y0,y1,y2,y3,y4,y5],fo⟩=⟨21,nd,lv-1,cn,[x0,x1,x2,x3,x4,x5].set lv nd,[y0,y1,y2,y3,y4,y5].set lv cn,fo⟩ by unfold SS.ends;rw[if_neg hl0]] at hQ;clear hr
     repeat' first|simp(disch:=try exact yj) only[go_sem, *,cu,cT,dR,List.getElem?_set_ne,List.length_set] | (apply xs<;>intro _)<;>try omega | ((with_reducible refine b8 1 ?_);refine dw 45 1 I3 (by first | (simp only[go_sem, *];done)|rfl) (by kernel_rfl) (by kernel_rfl) ?_) | ((with_reducible refine b8 2 ?_);refine dw 45 2 I4 (by first | (simp only[go_sem, *];done)|rfl) (by kernel_rfl) (by kernel_rfl) ?_)|refine fun (_ _:List Nat)=>?_ | (first|refine bD func165 rfl ?_ ?_ ?_ ?_ |refine bD func80 rfl ?_ ?_ ?_ ?_ |fail)<;>intros
     refine iK.h ⟨21,nd,lv-1,cn,[x0,x1,x2,x3,x4,x5].set lv nd,[y0,y1,y2,y3,y4,y5].set lv cn,fo⟩ _ ?_
     repeat rw[PT.set_set]
     have h5:lv=1∨lv=2∨lv=3∨lv=4∨lv=5:=by omega
     rcases h5 with rfl|rfl|rfl|rfl|rfl<;>rfl
end
end Go.Proofs.YtofmbmclopgldaaGreat
namespace Go.Proofs.YtofmbmclopgldaaGreat
open Go.Am Go.Proofs.Tryz
theorem aaz{l:List Value}(h:l.length=14):∃ a b c d e f g i j k m n o p,l=[a,b,c,d,e,f,g,i,j,k,m,n,o,p]:=by
 match l,h with
 | [a,b,c,d,e,f,g,i,j,k,m,n,o,p],_=>exact⟨a,b,c,d,e,f,g,i,j,k,m,n,o,p,rfl⟩
theorem wI{kd dn:Int}{xs:List Int}(h:cq kd dn xs=true):xs.length<64:=by
 unfold cq at h;split at h
 ·simp only[Bool.and_eq_true,decide_eq_true_eq] at h;omega
 ·split at h
  ·simp only[Bool.and_eq_true,decide_eq_true_eq] at h;omega
  ·split at h
   ·simp only[Bool.and_eq_true,decide_eq_true_eq] at h;omega
   ·simp at h
section
variable {E:Ev} {a b:Sd} {d:Rl→Nat} {C:Rl→Option aj} {h:PT aj} {n:Nat}
theorem QN(T:Tw E a b d C h n):
  cE prog OB 79 [pt (d (70,0))] h n fun v h' n'=>∃ x0 x1 x2 x3 s x7 x8 x9 x10 x11 x12 x13 x14 x15,v = .agg ⟨[I6 x0,I6 x1,U8 x2,I6 x3,U8 E.kd,I6 E.dn,s,I6 x7,I6 x8,I6 x9,I6 x10,I6 x11,I6 x12,I6 x13,I6 x14,I6 x15]⟩∧aN .u64 h' s E.xs∧Kept h h'∧bQ h' n'∧n≤n':=by
 obtain⟨stk,tag,X,xk,R,rk,M,B,Pk,I,EV⟩:=T.pg;have mV:=B.base;have FA:=T.st.at mV;have n70:=T.st.lt mV;have K:=T.fz.kept T.st;obtain⟨ro,hlb,aaA⟩:=UE T.ok.look;have FD:=K _ _ hlb;have nlb:=T.st.wf.lt FD;obtain⟨x0,x1,x2,x3,x7,x8,x9,x10,x11,x12,x13,x14,x15,cv,rest,hS,ahk⟩:=T.ok.aru;have hr:rest.length=14:=by rw[hS] at aaA;simp at aaA;omega
 obtain⟨y0,y1,y2,y3,y4,y5,y6,y7,y8,y9,y10,y11,y12,y13,rfl⟩:=aaz hr;rw[hS] at FD;simp only[List.cons_append,List.nil_append] at FD;have hW:=T.st.wf;have hcx:=ahk.keep K;have RS:=wI T.ok.dom;obtain⟨ca,cc,rfl,-⟩:=ahk.len;generalize d (70,0)=q70 at*;clear hlb aaA hS hr;refine ay (N:=12) func79 rfl rfl fun z hP hO hro hN hQ=>?_
 repeat' first|simp(disch:=try exact yj) only[go_sem, *] | (apply xs<;>intro _)<;>try omega|refine fun (_ _:List Nat)=>?_ | (first|refine bD func134 rfl ?_ ?_ ?_ ?_ |fail)<;>intros
 generalize hh4:(((h.set n _).set (n+1) _).set (n+1+1) _).set (n+1+1) _=h4;have K4:Kept h h4:=by
  rw[←hh4]
  repeat refine Kept.set' hW qJ ?_
  exact Kept.refl _
 have W4:bQ h4 (n+1+1+1):=by
  rw[←hh4]
  (repeat refine bQ.set' qJ ?_);first|assumption|exact bQ.mono (by assumption) qJ
 have e4:h4.get (n+1+1)=row [I6 x0,I6 x1,U8 x2,I6 x3,U8 E.kd,I6 E.dn,.slice ca E.xs.length cc,I6 x7,I6 x8,I6 x9,I6 x10,I6 x11,I6 x12,I6 x13,I6 x14,I6 x15]:=by rw[←hh4];exact aI
 have e4b:h4.get (n+1)=row [.int .i64 0,.int .i64 0,.int .u8 0,.int .i64 0,.int .u8 0,.int .i64 0,.slice none 0 0,.int .i64 0,.int .i64 0,.int .i64 0,.int .i64 0,.int .i64 0,.int .i64 0,.int .i64 0,.int .i64 0,.int .i64 0]:=by rw[←hh4,az qJ,az qJ];exact aI
 have e4c:h4.get n=row [.int .i64 0,.int .i64 0,.int .u8 0,.int .i64 0,.int .u8 0,.int .i64 0,.slice none 0 0,.int .i64 0,.int .i64 0,.int .i64 0,.int .i64 0,.int .i64 0,.int .i64 0,.int .i64 0,.int .i64 0,.int .i64 0]:=by rw[←hh4,az qJ,az qJ,az qJ];exact aI
 clear hh4;refine jg ((clone (O:=OB) _ E.xs h4 _ W4 (hcx.keep K4) qJ).wf W4) ?_;rintro v h5 n5 ⟨⟨k5,hv⟩,hn5,W5⟩;obtain⟨va,vc,rfl,-⟩:=hv.cR.len;have e5:=k5 _ _ e4;have e5b:=k5 _ _ e4b;have e5c:=k5 _ _ e4c;have K5:=K4.trans k5;have hvi:=hv.cR
 repeat' first|simp(disch:=try exact yj) only[go_sem, *] | (apply xs<;>intro _)<;>try omega|refine fun (_ _:List Nat)=>?_
 refine⟨_,_,_,_,_,_,_,_,_,_,_,_,_,_,rfl,hv.far fun i B h1 h2 e=>by rw[az qJ,az qJ,az qJ];exact e,?_,?_,by omega⟩
 ·repeat refine Kept.set' hW qJ ?_
  exact K5
 ·(repeat refine bQ.set' qJ ?_);first|assumption|exact bQ.mono (by assumption) qJ
end
end Go.Proofs.YtofmbmclopgldaaGreat
