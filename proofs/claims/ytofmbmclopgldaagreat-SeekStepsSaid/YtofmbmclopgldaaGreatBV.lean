/-
A part.
-/
import Derived.Test.YtofmbmclopgldaaGreatBI
set_option linter.all false
set_option maxRecDepth 100000
set_option maxHeartbeats 16000000
namespace Go.Proofs.YtofmbmclopgldaaGreat
open Go.Am Go.Proofs.Tryz
theorem Z2:prog.underlying 3=some (.int .i64):=by kernel_rfl
theorem af1:prog.underlying 5=some (.int .u8):=by kernel_rfl
theorem ari:prog.underlying 147=some (.map 3 4):=by kernel_rfl
theorem af2:prog.underlying 318=some (.map 5 321):=by kernel_rfl
theorem af3:prog.underlying 111=some (.map 3 255):=by kernel_rfl
@[go_sem] theorem muO{r:Nat}{x:Int}{v:Value}:WK prog 147 (.map (some r)) (.int .i64 x) v = .get r (KK prog r (.int .i64) (.int .i64 x) v):=muI ari Z2
@[go_sem] theorem lkT{r:Nat}{x:Int}{ok:Bool}:lkQ prog 318 (.map (some r)) (.int .u8 x) ok = .get r (YZ prog (.int .u8) 321 (.int .u8 x) ok):=lkI af2 af1
@[go_sem] theorem muT{r:Nat}{x:Int}{v:Value}:WK prog 318 (.map (some r)) (.int .u8 x) v = .get r (KK prog r (.int .u8) (.int .u8 x) v):=muI af2 af1
@[go_sem] theorem lkE{r:Nat}{x:Int}{ok:Bool}:lkQ prog 111 (.map (some r)) (.int .i64 x) ok = .get r (YZ prog (.int .i64) 255 (.int .i64 x) ok):=lkI af3 Z2
@[go_sem] theorem muE{r:Nat}{x:Int}{v:Value}:WK prog 111 (.map (some r)) (.int .i64 x) v = .get r (KK prog r (.int .i64) (.int .i64 x) v):=muI af3 Z2
attribute [go_sem] TM TN TP
theorem af4:zeroOf prog 255=some (.agg ⟨[.int .i64 0,.bool false]⟩):=by kernel_rfl
@[go_sem] theorem aA7{i:Nat}{v:Value}:Ot prog 321 false (some (some (i,v))) = .pure (.value v):=rfl
@[go_sem] theorem aA8{i:Nat}{v:Value}:Ot prog 326 false (some (some (i,v))) = .pure (.value v):=rfl
@[go_sem] theorem arj{i:Nat}{v:Value}:Ot prog 4 true (some (some (i,v))) = .pure (.value (.tuple ⟨[v,.bool true]⟩)):=rfl
@[go_sem] theorem ark:Ot prog 255 true (some none) = .pure (.value (.tuple ⟨[.agg ⟨[.int .i64 0,.bool false]⟩,.bool false]⟩)):=by simp only[Ot,af4,cond_true]
@[go_sem] theorem arl{i:Nat}{v:Value}:Ot prog 255 true (some (some (i,v))) = .pure (.value (.tuple ⟨[v,.bool true]⟩)):=rfl
@[go_sem] theorem af5{r:Nat}{k v:Value}{es:List (Value×Value×Nat)}{c:Nat}:Y0 r true k v es c (some none) = .set r (.map (es++[(k,v,c)]) (c+1)) (.pure .skip):=rfl
@[go_sem] theorem af6{r i:Nat}{k v w:Value}{es:List (Value×Value×Nat)}{c:Nat}:Y0 r true k v es c (some (some (i,w))) = .set r (.map (ia k v es i) c) (.pure .skip):=rfl
@[go_sem] theorem af7{r c:Nat}{l:List cK}{k:IntKind}:dlR r l k c none = .pure (.value (.tuple ⟨[]⟩)):=rfl
@[go_sem] theorem af8{r c i:Nat}{l:List cK}{k:IntKind}{v:Value}:dlR r l k c (some (i,v)) = .set r (.map (ef k (l.eraseIdx i)) c) (.pure (.value (.tuple ⟨[]⟩))):=rfl
@[go_sem] theorem mu0{r:Nat}{v:Value}:KK prog r (.int .u8) (.int .u8 4) v (.map [] 0) = .set r (.map [(.int .u8 4,v,0)] 1) (.pure .skip):=by rfl
@[go_sem] theorem mu1{r:Nat}{v w:Value}:KK prog r (.int .u8) (.int .u8 5) v (.map [(.int .u8 4,w,0)] 1) = .set r (.map [(.int .u8 4,w,0),(.int .u8 5,v,1)] 2) (.pure .skip):=by rfl
@[go_sem] theorem aFR{r:Nat}{v w:Value}:KK prog r (.int .u8) (.int .u8 7) v (.map [(.int .u8 4,w,0)] 1) = .set r (.map [(.int .u8 4,w,0),(.int .u8 7,v,1)] 2) (.pure .skip):=by rfl
@[go_sem] theorem mu2{r:Nat}{v w u:Value}:KK prog r (.int .u8) (.int .u8 6) v (.map [(.int .u8 4,w,0),(.int .u8 5,u,1)] 2) = .set r (.map [(.int .u8 4,w,0),(.int .u8 5,u,1),(.int .u8 6,v,2)] 3) (.pure .skip):=by rfl
@[go_sem] theorem aFS{r:Nat}{v w u:Value}:KK prog r (.int .u8) (.int .u8 8) v (.map [(.int .u8 4,w,0),(.int .u8 7,u,1)] 2) = .set r (.map [(.int .u8 4,w,0),(.int .u8 7,u,1),(.int .u8 8,v,2)] 3) (.pure .skip):=by rfl
theorem _root_.Go.Am.St.re{h:PT aj}{n i:Nat}{d:Rl→Nat}{C:Rl→Option aj}{r:Rl}{A B:aj}(S:St h n d (upd C r (some A)))(hi:d r=i):St (h.set i (some B)) n d (upd C r (some B)):=(S.set r B aq hi).eq gn rfl
section
variable {h:PT aj} {n:Nat} {d:Rl→Nat} {C:Rl→Option aj} {W:List Int} {L:List Value} {k a:Nat} {th o x:Int}
end
def EH(pb:Nat)(th tw hd w pc:Int)(mp:Nat)(bl fl tr e:Int):List Value:=[pt pb,I6 th,I6 tw,I6 hd,U6 w,U8 pc,.map (some mp),I6 bl,I6 fl,I6 tr,I6 e]
def Xm:List cK:=[(4,.func (.func 183) ⟨[]⟩ ⟨[]⟩,0),(5,.func (.func 184) ⟨[]⟩ ⟨[]⟩,1),(6,.func (.func 185) ⟨[]⟩ ⟨[]⟩,2)]
theorem af9{h:PT aj}{n:Nat}{d:Rl→Nat}{C:Rl→Option aj}{mv lv p6 ov gv:Value}{q5 th x:Int}(S:St h n d C)(e1:C (75,0)=row [mv,lv,I6 q5,p6,ov,gv])(ht:0≤th∧th<64)(hx:1≤x∧x≤6)(h5:0≤q5∧q5≤100000):
  cE prog OB 120 [pt (d (75,0)),I6 th,I6 x,I6 0] h n fun r h' n'=>∃ p q,n≤q∧n≤p∧p<n'∧r=iU [pt p,I6 0]∧St h' n' (upd (upd d (80,0) p) (81,0) q) (upd (upd C (80,0) (row (EH (d (75,0)) th 0 (q5+x-1) 0 4 q 0 0 0 0))) (81,0) (some (.map (ef .u8 Xm) 3))):=by
 have g1:=S.at e1;have n1:=S.lt e1;obtain⟨t1,t2⟩:=ht;obtain⟨x1,x2⟩:=hx;obtain⟨y1,y2⟩:=h5;clear e1;refine ay (N:=55) func120 rfl rfl fun z hP hO hro hN hQ=>?_
 repeat' first|simp(disch:=first|omega|assumption) only[go_sem, *] | (apply xs<;>intro _)<;>try omega
 refine⟨n,n+1,by omega,by omega,by omega,rfl,?_⟩;exact((((((S.new (80,0) _ (Nat.le_refl _) (Nat.lt_succ_self _)).new (81,0) _ (Nat.le_refl _) (Nat.lt_succ_self _)).set (81,0) _ aq aq).set (81,0) _ aq aq).set (81,0) _ aq aq).set (80,0) _ ((au qi).trans ((au qi).trans ((au qi).trans ((au qi).trans aq)))) ((au qi).trans aq)).eq (by simp only[gn];rw[Ou qi,gn];rfl) rfl
@[go_sem] theorem tk4:bW 4 Xm 0=some (0,.func (.func 183) ⟨[]⟩ ⟨[]⟩):=rfl
@[go_sem] theorem tk5:bW 5 Xm 0=some (1,.func (.func 184) ⟨[]⟩ ⟨[]⟩):=rfl
@[go_sem] theorem tk6:bW 6 Xm 0=some (2,.func (.func 185) ⟨[]⟩ ⟨[]⟩):=rfl
end Go.Proofs.YtofmbmclopgldaaGreat
namespace Go.Proofs.YtofmbmclopgldaaGreat
open Go.Am Go.Proofs.Tryz
theorem af_{x:Int}(h0:0≤x)(h1:x<18446744073709551616):(((BitVec.ofInt 64 x&&&BitVec.ofInt 64 1099511627775).toNat:Nat):Int)=x%1099511627776:=by
 obtain⟨n,rfl⟩:=Int.eq_ofNat_of_zero_le h0;rw[BitVec.toNat_and,BitVec.toNat_ofInt,BitVec.toNat_ofInt];have e1:((n:Int)%((2^64:Nat):Int)).toNat=n:=by omega
 have e2:((1099511627775:Int)%((2^64:Nat):Int)).toNat=2^40-1:=by decide
 rw[e1,e2,Nat.and_two_pow_sub_one_eq_mod];omega
theorem wF{t g:Int}(ht:0≤t∧t<65536)(hg:0≤g):(t+65536*g).tdiv 65536=g∧(t+65536*g).tmod 65536=t:=by
 have h:0≤t+65536*g:=by omega
 rw[Int.tdiv_eq_ediv_of_nonneg h,Int.tmod_eq_emod_of_nonneg h];omega
def gvM:List cK:=[(4,.func (.func 187) ⟨[]⟩ ⟨[]⟩,0),(7,.func (.func 188) ⟨[]⟩ ⟨[]⟩,1),(8,.func (.func 189) ⟨[]⟩ ⟨[]⟩,2)]
@[go_sem] theorem gv4:bW 4 gvM 0=some (0,.func (.func 187) ⟨[]⟩ ⟨[]⟩):=rfl
@[go_sem] theorem gv7:bW 7 gvM 0=some (1,.func (.func 188) ⟨[]⟩ ⟨[]⟩):=rfl
@[go_sem] theorem gv8:bW 8 gvM 0=some (2,.func (.func 189) ⟨[]⟩ ⟨[]⟩):=rfl
theorem L_.move{d d':Rl→Nat}{C C':Rl→Option aj}{lb:Nat}{l:dg}{mk ev:Value}{R:List cK}{rk:Nat}{X X':List cK}{xk xk':Nat}{G G':List Int}(B:L_ d C lb l mk ev R rk X xk G)(hM:d' rM=d rM)(fr:∀ a b,2<a→a≠76→a≠77→a≠80→a≠81→d' (a,b)=d (a,b)∧C' (a,b)=C (a,b))(d6:d' (76,0)=d (76,0))(d7:d' (77,0)=d (77,0))(c6:C' (76,0)=some (.map (ef .i64 X') xk'))(c7:C' (77,0)=row (G'.map (.int .i64)))(hG:G'.length=G.length):L_ d' C' lb l mk ev R rk X' xk' G':=by
 obtain⟨b1,b2,b3,b4,b5,b6,b7⟩:=B;have q:=fun a (h:2<a) h6 h7 h8 h9=>fr a 0 h h6 h7 h8 h9;refine⟨?_,?_,?_,c6,c7,?_,?_⟩
 ·rw[(q 70 qi qi qi qi qi).2,b1,hM,(q 75 qi qi qi qi qi).1,(q 78 qi qi qi qi qi).1,(q 4 qi qi qi qi qi).1,(q 73 qi qi qi qi qi).1,(q 74 qi qi qi qi qi).1]
 ·rw[(q 74 qi qi qi qi qi).2];exact b2
 ·rw[(q 75 qi qi qi qi qi).2,b3,hM,d6,d7,hG]
 ·rw[(q 78 qi qi qi qi qi).2,b6,hM]
 ·obtain⟨v,hv⟩:=b7;exact⟨v,by rw[(q 73 qi qi qi qi qi).2];exact hv⟩
theorem Z3{h:PT aj}{n:Nat}{L:List Int}{s:Value}{t:Int}(hs:(s = .slice none 0 0∧L=[])∨∃ b c,s = .slice (some ⟨b,0,none⟩) L.length c∧h.get b=row (L.map (.int .i64)))(hl:L.length≤10000):
  cE prog OB 191 [s,I6 t] h n fun r h' n'=>(∃ k:Int,r=I6 k ∧ -1≤k∧k≤10000∧(0≤k↔t∈L))∧h'=h∧n'=n:=by
 obtain⟨a,c,rfl,ha⟩:∃ a c,s = .slice a L.length c∧(0<L.length→∃ b,a=some ⟨b,0,none⟩∧h.get b=row (L.map (.int .i64))):=by
  rcases hs with ⟨rfl,rfl⟩ | ⟨b,c,rfl,hb⟩
  ·exact⟨_,_,rfl,fun q=>absurd q (by simp)⟩
  ·exact⟨_,_,rfl,fun _=>⟨b,rfl,hb⟩⟩
 refine ay (N:=19) func191 rfl rfl fun z hP hO hro hN hQ=>?_
 repeat' first|simp(disch:=first|omega|assumption) only[go_sem, *] | (apply xs<;>intro _)<;>try omega
 refine a_ (fun tt m h' n'=>∃ i:Nat,i≤L.length∧tt=L.length-i∧m.n=19∧m.fF=[]∧m.get 0 = .slice a L.length c∧m.get 1=I6 t∧m.get 7=I6 L.length∧m.get 8=I6 i∧h'=h∧n'=n∧∀ j,j<i→L.getD j 0≠t) L.length ?_ ?_
 ·refine⟨0,by omega,by omega,?_⟩;simp(disch:=first|omega|assumption) only[go_sem, *];exact fun j hj=>absurd hj qJ
 ·rintro tt m h' n' ih ⟨i,hi,rfl,m1,m2,m3,m4,m5,m6,rfl,rfl,q⟩;by_cases hlt:i<L.length
  ·obtain⟨b,rfl,hb⟩:=ha qJ;have e7:(i:Int)<L.length:=by omega
   have hg:(L.map (Value.int .i64))[i]? = some (.int .i64 (L.getD i 0)):=by rw[List.getElem?_map,List.getElem?_eq_getElem hlt];simp[List.getD,hlt]
   have PG:(i:Int)+1=((i+1:Nat):Int):=by omega
   have hmem:L.getD i 0∈L:=by simp[List.getD,hlt]
   clear ha;by_cases hx:t=L.getD i 0
   ·clear ih q;rw[←hx] at hmem hg
    repeat' first|simp(disch:=first|omega|assumption) only[go_sem, *] | (apply xs<;>intro _)<;>try omega
    exact⟨_,rfl,by omega,by omega,fun _=>by rw[←hx];exact hmem,fun _=>by omega⟩
   ·have hne:L.getD i 0≠t:=fun e=>hx e.symm;have q2:∀ j,j<i+1→ ¬L.getD j 0=t:=fun j hj=>by
     by_cases c:j=i
     ·rw[c];exact hne
     ·exact q j qJ
    generalize L.getD i 0=y at*;clear q
    repeat' first|simp(disch:=first|omega|assumption) only[go_sem, *] | (apply xs<;>intro _)<;>try omega
    refine ih (L.length-(i+1)) _ _ _ qJ ⟨i+1,by omega,rfl,?_⟩;clear ih;simp(disch:=first|omega|assumption) only[go_sem, *];exact q2
  ·have e7: ¬ (i:Int)<L.length:=by omega
   have hno:t∉L:=fun hm=>by
    obtain⟨j,hj,e⟩:=List.mem_iff_getElem.1 hm;exact q j qJ (by simp[List.getD,hj,e])
   clear ih ha
   repeat' first|simp(disch:=first|omega|assumption) only[go_sem, *] | (apply xs<;>intro _)<;>try omega
   exact⟨_,rfl,by omega,by omega,fun c=>absurd c qi,fun c=>by first|exact absurd c hno|exact absurd c id⟩
theorem Ls{h:PT aj}{n:Nat}{L:List Int}{s:Value}{t:Int}(hs:(s = .slice none 0 0∧L=[])∨∃ b c,s = .slice (some ⟨b,0,none⟩) L.length c∧h.get b=row (L.map (.int .i64)))(hl:L.length≤10000):
  cE prog OB 127 [s,I6 t] h n fun r h' n'=>r = .bool (decide (t∈L))∧h'=h∧n'=n:=by
 have ix:=Z3 (t:=t) (n:=n) hs hl;refine ay (N:=9) func127 rfl rfl fun z hP hO hro hN hQ=>?_
 repeat' first|simp(disch:=first|omega|assumption) only[go_sem, *] | (apply xs<;>intro _)<;>try omega
 refine jg (ix) ?_;rintro r h2 n2 ⟨⟨k,rfl,k1,k2,k3⟩,rfl,rfl⟩;by_cases c:t∈L
 ·have q:=k3.2 c;have hd:decide (t∈L)=true:=decide_eq_true c;clear k3
  repeat' first|simp(disch:=first|omega|assumption) only[go_sem, *] | (apply xs<;>intro _)<;>try omega
 ·have q: ¬ 0≤k:=fun e=>c (k3.1 e);have hd:decide (t∈L)=false:=decide_eq_false c;clear k3
  repeat' first|simp(disch:=first|omega|assumption) only[go_sem, *] | (apply xs<;>intro _)<;>try omega
def cO(X:List cK):List Int:=kQ (X.map fun e=>e.1)
structure oh(X:List cK)(xk:Nat):Prop where
 val:∀ e∈X,e.2.1 = .bool false
 nd:(X.map fun e=>e.1).Nodup
 wf:∀ e∈X,0≤e.1∧e.1≤1024
 st:∀ e∈X,e.2.2<xk
 sd:(X.map fun e=>e.2.2).Nodup
theorem AQ{m:Nat}{l:List Int}(hn:l.Nodup)(hb:∀ x∈l,0≤x∧x<m):l.length≤m:=by
 have h:=hn.length_le_of_subset (l₂:=(List.range m).map fun k:Nat=>(k:Int)) fun x hx=>by
  have:=hb x hx;exact List.mem_map.2 ⟨x.toNat,List.mem_range.2 qJ,by omega⟩
 simpa using h
theorem Qa:∀ {l:List Int},l.Nodup→ndI l=true
 | [],_=>rfl
 |x::l,h=>by
  obtain⟨h1,h2⟩:=List.nodup_cons.1 h;simp only[ndI,Bool.and_eq_true,Bool.not_eq_true',List.any_eq_false,decide_eq_true_eq];exact⟨fun y hy e=>h1 (e ▸ hy),Qa h2⟩
theorem Qb:∀ {l:List Nat},l.Nodup→ndN l=true
 | [],_=>rfl
 |x::l,h=>by
  obtain⟨h1,h2⟩:=List.nodup_cons.1 h;simp only[ndN,Bool.and_eq_true,Bool.not_eq_true',List.any_eq_false];exact⟨fun y hy e=>h1 (Nat.eq_of_beq_eq_true e ▸ hy),Qb h2⟩
theorem rI:∀ {X:List cK},(∀ e∈X,e.2.1 = .bool false)→uY (ef .i64 X)=some (X.map fun e=>e.1)
 | [],_=>rfl
 | (x,v,c)::X,h=>by
  obtain rfl:v = .bool false:=h (x,v,c) (by simp);have ih:=rI (X:=X) fun e he=>h e (by simp[he]);unfold ef at*;simp only[List.map_cons,uY,ih]
theorem oh.ok{X:List cK}{xk:Nat}(H:oh X xk):TR (ef .i64 X) xk (X.map fun e=>e.1)=true:=by
 obtain⟨h1,h2,h3,h4,h5⟩:=H;unfold TR;simp only[Bool.and_eq_true,List.all_eq_true];refine⟨⟨⟨⟨fun x hx=>?_,Qa h2⟩,fun e he=>?_⟩,?_⟩,?_⟩
 ·obtain⟨e,he,rfl⟩:=List.mem_map.1 hx;have:=h3 e he;have k1:IntKind.i64.min = -9223372036854775808:=rfl;have k2:IntKind.i64.max=9223372036854775807:=rfl;simp only[Lit.wf,k1,k2,Bool.and_eq_true,decide_eq_true_eq];omega
 ·unfold ef at he;obtain⟨q,hq,rfl⟩:=List.mem_map.1 he;exact Nat.ble_eq_true_of_le (h4 q hq)
 ·refine Qb ?_;rw[show (ef .i64 X).map (fun e=>e.2.2)=X.map fun e=>e.2.2 by unfold ef;rw[List.map_map];rfl];exact h5
 ·refine Nat.ble_eq_true_of_le ?_;have:=AQ (m:=1025) h2 fun x hx=>by
   obtain⟨e,he,rfl⟩:=List.mem_map.1 hx;have:=h3 e he;omega
  rw[List.length_map] at this;unfold ef;rw[List.length_map];omega
theorem oh.len{X:List cK}{xk:Nat}(H:oh X xk):X.length≤1025:=by
 have:=AQ (m:=1025) H.nd fun x hx=>by
  obtain⟨e,he,rfl⟩:=List.mem_map.1 hx;have:=H.wf e he;omega
 rwa [List.length_map] at this
theorem gO{X:List cK}:(cO X).length=X.length:=by unfold cO;rw[(kR _).length_eq,List.length_map]
theorem yU{X:List cK}{x:Int}:x∈cO X↔∃ e∈X,e.1=x:=by unfold cO;rw[(kR _).mem_iff,List.mem_map]
theorem Jj{z:Zx}{f:Value→AP aG}{d:Option Nat}{ops r:List Oper}{K:List KF}{m:Tm}{h:PT aj}{n pb rr xk:Nat}{v0 v1 v2 v3 v5:Value}{X:List cK}(hp:h.get pb=row [v0,v1,v2,v3,.map (some rr),v5])(hm:h.get rr=some (.map (ef .i64 X) xk))(H:oh X xk):
  jZ z ((KM ⟨pb,0,none⟩).bind f) d ops r K m h n↔if X.length=0 then jZ z (f (.slice none 0 0)) d ops r K m h n else jZ z (f (.slice (some ⟨n,0,none⟩) X.length (aA+1))) d ops r K m (h.set n (row ((cO X).map (.int .i64)))) (n+1):=by
 have hk:=rI H.val;have hlen:=gO (X:=X);unfold KM;have hok:=H.ok;have hL:kQ (X.map fun e=>e.1)=cO X:=rfl;simp only[AP.bind,BD,hp,xB,PT.aQ,Nat.zero_add,List.getElem?_cons_succ,List.getElem?_cons_zero,hm,hk,hok,cond_true,hL];unfold TS;by_cases c:X.length=0
 ·rw[if_pos c];have:cO X=[]:=List.length_eq_zero_iff.1 qJ;rw[this];rfl
 ·rw[if_neg c];cases ho:cO X with
  |nil=>rw[ho] at hlen;simp at hlen;omega
  |cons y L=>rw[ho] at hlen;rw[←hlen];rfl
def Rs(R:List cK)(t:Nat)(x:Int):Option Bool→Prop
 |none=>bW (t:Int) R 0=none∨∃ i g r,bW (t:Int) R 0=some (i,.agg ⟨[.int .i64 g,.bool r]⟩)∧g≠x
 |some r=>∃ i,bW (t:Int) R 0=some (i,.agg ⟨[.int .i64 x,.bool r]⟩)
structure Qc(h:PT aj)(n bb pb rb gb ob:Nat)(R:List cK)(rk:Nat)(X:List cK)(xk:Nat)(G:List Int):Prop where
 wf:bQ h n
 base:∃ v0 v1 v3 v4 v5 v6 v7,h.get bb=row [v0,v1,pt pb,v3,v4,v5,v6,v7,.map (some rb)]
 reg:h.get rb=some (.map (ef .i64 R) rk)
 pool:∃ v0 v1 v2 v3,h.get pb=row [v0,v1,v2,v3,.map (some ob),.slice (some ⟨gb,0,none⟩) G.length G.length]
 Cn:h.get gb=row (G.map (.int .i64))
 out:h.get ob=some (.map (ef .i64 X) xk)
 len:G.length≤1024
theorem vn{h:PT aj}{n bb pb rb gb ob t rk xk:Nat}{R X:List cK}{G:List Int}{x:Int}{o:Option Bool}(H:Qc h n bb pb rb gb ob R rk X xk G)(ht:1≤t∧t≤G.length)(hG:G[t-1]? = some x)(hR:Rs R t x o):
  cE prog OB 126 [pt bb,I6 t] h n fun r h' n'=>(∃ g q,r=iU [.agg ⟨[I6 g,.bool q]⟩,.bool o.isSome]∧∀ p,o=some p→q=p∧g=x)∧Kept h h'∧bQ h' n'∧n≤n':=by
 obtain⟨W,⟨a0,a1,a3,a4,a5,a6,a7,g1⟩,g2,⟨b0,b1,b2,b3,g3⟩,g4,g5,g6⟩:=H;have n1:=W.lt g1;have n2:=W.lt g2;have n3:=W.lt g3;have n4:=W.lt g4;obtain⟨t1,t2⟩:=ht;have hgt:(G.map (Value.int .i64))[t-1]? = some (.int .i64 x):=by rw[List.getElem?_map,hG];rfl
 have ht1:(t:Int)-1=((t-1:Nat):Int):=by omega
 have ht2:((t-1:Nat):Int)<G.length:=by omega
 have ht3:(0:Int)≤((t-1:Nat):Int):=by omega
 have ht4: ¬ (t:Int)<1:=by omega
 have ht5: ¬ (G.length:Int)<t:=by omega
 refine ay (N:=35) func126 rfl rfl fun z hP hO hro hN hQ=>?_;cases o with
 |none=>
  rcases hR with hR | ⟨i,g,r,hR,hne⟩
  ·repeat' first|simp(disch:=try exact yj) only[go_sem, *] | (apply xs<;>intro _)<;>try omega|refine fun (_ _:List Nat)=>?_ | (first|refine bD func125 rfl ?_ ?_ ?_ ?_ |fail)<;>intros
   exact⟨⟨0,false,rfl,fun p c=>c.elim⟩,Kept.set' W (Nat.le_refl _) (Kept.set' W (Nat.le_refl _) (W.kept (Nat.le_refl _))),((W.set (Nat.le_succ _) (Nat.lt_succ_self _)).set (Nat.le_refl _) (Nat.lt_succ_self _)).set (Nat.le_refl _) (Nat.lt_succ_self _),Nat.le_succ _⟩
  ·repeat' first|simp(disch:=try exact yj) only[go_sem, *] | (apply xs<;>intro _)<;>try omega|refine fun (_ _:List Nat)=>?_ | (first|refine bD func125 rfl ?_ ?_ ?_ ?_ |fail)<;>intros
   exact⟨⟨g,r,rfl,fun p c=>c.elim⟩,Kept.set' W (Nat.le_refl _) (Kept.set' W (Nat.le_refl _) (W.kept (Nat.le_refl _))),((W.set (Nat.le_succ _) (Nat.lt_succ_self _)).set (Nat.le_refl _) (Nat.lt_succ_self _)).set (Nat.le_refl _) (Nat.lt_succ_self _),Nat.le_succ _⟩
 |some r=>
  obtain⟨i,hR⟩:=hR
  repeat' first|simp(disch:=try exact yj) only[go_sem, *] | (apply xs<;>intro _)<;>try omega|refine fun (_ _:List Nat)=>?_ | (first|refine bD func125 rfl ?_ ?_ ?_ ?_ |fail)<;>intros
  exact⟨⟨x,r,rfl,fun p c=>⟨c,rfl⟩⟩,Kept.set' W (Nat.le_refl _) (Kept.set' W (Nat.le_refl _) (W.kept (Nat.le_refl _))),((W.set (Nat.le_succ _) (Nat.lt_succ_self _)).set (Nat.le_refl _) (Nat.lt_succ_self _)).set (Nat.le_refl _) (Nat.lt_succ_self _),Nat.le_succ _⟩
theorem EI{x:Int}{v:Value}:∀ {l:List cK} {i j:Nat},bW x l i=some (j,v)→i≤j∧∃ c,l[j-i]? = some (x,v,c)
 | [],_,_,h=>by simp[bW] at h
 |e::l,i,j,h=>by
  rw[bW] at h;split at h
  ·rename_i c;simp only[Option.some.injEq,Prod.mk.injEq] at h;obtain⟨rfl,rfl⟩:=h;exact⟨Nat.le_refl _,e.2.2,by rw[Nat.sub_self,c];rfl⟩
  ·obtain⟨h1,c,h2⟩:=EI h;refine⟨by omega,c,?_⟩;rw[show j-i=(j-(i+1))+1 by omega]
   simpa using h2
theorem yV{x:Int}{v:Value}{l:List cK}{j:Nat}(h:bW x l 0=some (j,v)):∃ c,l[j]? = some (x,v,c):=(EI h).2
def uy(R:List cK)(rk t:Nat)(v:Value):List cK×Nat:=match bW (t:Int) R 0 with
 |some (i,_)=>(match R[i]? with |some e=>R.set i ((t:Int),v,e.2.2) |none=>R,rk)
 |none=>(R++[((t:Int),v,rk)],rk+1)
theorem Qd{h:PT aj}{n bb pb rb gb ob t rk xk:Nat}{R X:List cK}{G:List Int}{x:Int}(H:Qc h n bb pb rb gb ob R rk X xk G)(ht:1≤t∧t≤G.length)(hG:G[t-1]? = some x)(hR:Rs R t x none)(hX:oh X xk)(hm:(t:Int)∈cO X):
  cE prog OB 53 [pt bb,I6 t] h n fun r h' n'=>r=I6 0∧∃ h2,Kept h h2∧bQ h2 n'∧n≤n'∧h'=h2.set rb (some (.map (ef .i64 (uy R rk t (.agg ⟨[I6 x,.bool false]⟩)).1) (uy R rk t (.agg ⟨[I6 x,.bool false]⟩)).2)):=by
 have H0:=H;obtain⟨W,⟨a0,a1,a3,a4,a5,a6,a7,g1⟩,g2,⟨b0,b1,b2,b3,g3⟩,g4,g5,g6⟩:=H;have n1:=W.lt g1;have n2:=W.lt g2;have n3:=W.lt g3;have n4:=W.lt g4;obtain⟨t1,t2⟩:=ht;have hgt:(G.map (Value.int .i64))[t-1]? = some (.int .i64 x):=by rw[List.getElem?_map,hG];rfl
 have ht1:(t:Int)-1=((t-1:Nat):Int):=by omega
 have ht2:((t-1:Nat):Int)<G.length:=by omega
 have ht3:(0:Int)≤((t-1:Nat):Int):=by omega
 have ht4: ¬ (t:Int)<1:=by omega
 have ht5: ¬ (G.length:Int)<t:=by omega
 have rg:cE prog OB 126 [pt bb,I6 t] h n fun r h' n'=>(∃ g q,r=iU [.agg ⟨[I6 g,.bool q]⟩,.bool false]∧∀ p,none=some p→q=p∧g=x)∧Kept h h'∧bQ h' n'∧n≤n':=vn H0 ⟨t1,t2⟩ hG hR;have Us: ¬ X.length=0:=fun c=>by
  have:=gO (X:=X);rw[c] at this;rw[List.length_eq_zero_iff.1 this] at hm;simp at hm
 refine ay (N:=49) func53 rfl rfl fun z hP hO hro hN hQ=>?_
 repeat' first|simp(disch:=try exact yj) only[go_sem, *] | (apply xs<;>intro _)<;>try omega|refine fun (_ _:List Nat)=>?_ | (first|refine bD func125 rfl ?_ ?_ ?_ ?_ |fail)<;>intros
 refine jg (rg) ?_;rintro r h2 Up ⟨⟨g,q,rfl,-⟩,k2,W2,hn2⟩;have g1':=k2 _ _ g1;have g2':=k2 _ _ g2;have g3':=k2 _ _ g3;clear rg
 repeat' first|simp(disch:=try exact yj) only[go_sem, *,BN] | (apply xs<;>intro _)<;>try omega|refine fun (_ _:List Nat)=>?_
 generalize L8:(h2.set _ _).set _ _=h3;have k3:Kept h h3:=by rw[←L8];exact Kept.set' W qJ (Kept.set' W qJ k2)
 have W3:bQ h3 (Up+1):=by rw[←L8];exact(W2.set (Nat.le_succ _) (Nat.lt_succ_self _)).set (Nat.le_refl _) (Nat.lt_succ_self _)
 clear L8 g1' g2' g3';rw[Jj (k3 _ _ g3) (k3 _ _ g5) hX,if_neg Us];have hXn:X.length=(cO X).length:=gO.symm;rw[hXn];have k4:Kept h (h3.set (Up+1) (row ((cO X).map (.int .i64)))):=Kept.set' W qJ k3;have W4:bQ (h3.set (Up+1) (row ((cO X).map (.int .i64)))) (Up+1+1):=W3.set (Nat.le_succ _) (Nat.lt_succ_self _);have hrow:(h3.set (Up+1) (row ((cO X).map (.int .i64)))).get (Up+1)=row ((cO X).map (.int .i64)):=aI;generalize h3.set (Up+1) _=h4 at*;have RS:=hX.len
 repeat' first|simp(disch:=try exact yj) only[go_sem, *] | (apply xs<;>intro _)<;>try omega|refine fun (_ _:List Nat)=>?_
 refine jg (Ls (L:=cO X) (t:=(t:Int)) (.inr ⟨Up+1,aA+1,rfl,hrow⟩) (by rw[gO];omega)) ?_;rintro r h5 n5 ⟨rfl,rfl,rfl⟩;rw[decide_eq_true hm];have g1':=k4 _ _ g1;have g2':=k4 _ _ g2;have g3':=k4 _ _ g3;cases hf:bW (t:Int) R 0 with
 |none=>
  have hp:uy R rk t (.agg ⟨[I6 x,.bool false]⟩)=(R++[((t:Int),.agg ⟨[I6 x,.bool false]⟩,rk)],rk+1):=by unfold uy;rw[hf]
  rw[hp] at hQ;clear hR
  repeat' first|simp(disch:=try exact yj) only[go_sem, *] | (apply xs<;>intro _)<;>try omega|refine fun (_ _:List Nat)=>?_
  rw[Ap];exact⟨_,k4,W4,by omega,rfl⟩
 |some iv=>
  obtain⟨i,v⟩:=iv;obtain⟨c,hc⟩:=yV hf;have hp:uy R rk t (.agg ⟨[I6 x,.bool false]⟩)=(R.set i ((t:Int),.agg ⟨[I6 x,.bool false]⟩,c),rk):=by unfold uy;rw[hf];simp only[hc]
  have hpe:ia (.int .i64 t) (.agg ⟨[I6 x,.bool false]⟩) (ef .i64 R) i=ef .i64 (R.set i ((t:Int),.agg ⟨[I6 x,.bool false]⟩,c)):=by rw[D3,hc]
  rw[hp] at hQ;clear hR
  repeat' first|simp(disch:=try exact yj) only[go_sem, *] | (apply xs<;>intro _)<;>try omega|refine fun (_ _:List Nat)=>?_
  exact⟨_,k4,W4,by omega,rfl⟩
end Go.Proofs.YtofmbmclopgldaaGreat
