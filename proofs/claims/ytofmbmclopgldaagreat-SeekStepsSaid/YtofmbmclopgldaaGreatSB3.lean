/-
A part.
-/
import Derived.Test.YtofmbmclopgldaaGreatT9S5
set_option linter.all false
set_option maxRecDepth 100000
set_option maxHeartbeats 4000000
namespace Go.Proofs.YtofmbmclopgldaaGreat
open Go.Am Tryz
def kj:List Value→Option (List (Int×Int×Int))
 | []=>some []
 | .int .u8 a :: .int .i64 b :: .int .i64 c::r=>(kj r).map ((a,b,c)::·)
 | _=>none
theorem sY:∀ W:List (Int×Int×Int),kj (gd W)=some W
 | []=>rfl
 | (a,b,c)::W=>by
  have:=sY W;simp only[gd,List.flatMap_cons,WU,List.cons_append,List.nil_append,kj] at this ⊢;rw[this];rfl
theorem Hz(L:List Value):∀ (W:List (Int×Int×Int)),kj L=some W→L=gd W:=by
 induction L using kj.induct with
 |case1=>intro W h;simp only[kj,Option.some.injEq] at h;subst h;rfl
 |case2 a b c r ih=>
  intro W h;simp only[kj,Option.map_eq_some_iff] at h;obtain⟨V,hV,rfl⟩:=h;rw[ih V hV];rfl
 |case3 L h1 h2=>
  intro W h;rw[kj] at h
  ·simp at h
  ·exact h1
  ·exact h2
noncomputable def Ll:Value→AP (List (Int×Int×Int))
 | .pointer (some ⟨lb,0,none⟩)=>AP.row lb fun (S:List Value) _=>match (S[27]? : Option Value) with
  |some (.slice (some ⟨wb,0,none⟩) n _)=>AP.row wb fun (L:List Value) _=>match kj L with
   |some W=>cond (Nat.beq n W.length&&Nat.ble n 100000&&Nat.beq S.length 28) (.pure W) (.fail "")
   |none => .fail ""
  | _ => .fail ""
 | _ => .fail ""
theorem qq(v:Value):Reads (Ll v):=by
 unfold Ll;split
 ·refine dW fun S ro=>?_;split
  ·refine dW fun L ro=>?_;split
   ·exact .cond (.pure _) (.fail _)
   ·exact .fail _
  ·exact .fail _
 ·exact .fail _
theorem PO{v:Value}{h:PT aj}{W:List (Int×Int×Int)}(e:(Ll v).look h=some W):∃ lb ro S wb c JJ,v = .pointer (some ⟨lb,0,none⟩)∧h.get lb=some (.cells (PT.ofList .leaf 0 S) ro)∧S[27]? = some (.slice (some ⟨wb,0,none⟩) W.length c)∧
  h.get wb=some (.cells (PT.ofList .leaf 0 (gd W)) JJ)∧W.length≤100000∧S.length=28:=by
 unfold Ll at e;split at e
 ·rename_i lb;obtain⟨S,ro,hb,e⟩:=cA e;split at e
  ·rename_i wb n c qm;obtain⟨L,JJ,hw,e⟩:=cA e;split at e
   ·rename_i W' hL;obtain⟨hc,e⟩:=f_ e;rw[aF] at e;obtain rfl:=Option.some.inj e;simp only[Bool.and_eq_true] at hc;have h1:=Nat.eq_of_beq_eq_true hc.1.1;subst h1;rw[Hz _ _ hL] at hw;exact⟨lb,ro,S,wb,c,JJ,rfl,hb,qm,hw,Nat.le_of_ble_eq_true hc.1.2,Nat.eq_of_beq_eq_true hc.2⟩
   ·simp[AP.look] at e
  ·simp[AP.look] at e
 ·simp[AP.look] at e
theorem ZU{h:PT aj}{lb wb c:Nat}{S:List Value}{ro JJ:Bool}{W:List (Int×Int×Int)}(hb:h.get lb=some (.cells (PT.ofList .leaf 0 S) ro))(qm:S[27]? = some (.slice (some ⟨wb,0,none⟩) W.length c))(hw:h.get wb=some (.cells (PT.ofList .leaf 0 (gd W)) JJ))(h1:W.length≤100000)(h2:S.length=28):
  (Ll (.pointer (some ⟨lb,0,none⟩))).look h=some W:=by
 unfold Ll;simp only[AP.row,oX,hb,kN,qm,hw,sY];simp only[Nat.ble_eq_true_of_le h1,h2,show ∀ n,Nat.beq n n=true from Nat.beq_refl,Bool.and_self,cond_true,aF]
def ot:List (Int×Int×Int)→Int×Int×Int→Int→Option Int
 | [],_,_=>none
 |y::ys,x,b=>if y=x then some b else ot ys x (b+1)
def fI(W:List (Int×Int×Int))(x:Int×Int×Int):Int:=(ot W x 0).getD 0
def fE(W:List (Int×Int×Int))(x:Int×Int×Int):Int:=if (ot W x 0).isSome then 0 else 3
def jq(W:List (Int×Int×Int))(x:Int×Int×Int):Value := .tuple ⟨[.int .i64 (fI W x),.int .i64 (fE W x)]⟩
theorem HA{W:List (Int×Int×Int)}{x:Int×Int×Int}{i:Int}(h:ot W x 0=some i):jq W x = .tuple ⟨[.int .i64 i,.int .i64 0]⟩:=by unfold jq fI fE;rw[h];rfl
theorem HB{W:List (Int×Int×Int)}{x:Int×Int×Int}(h:ot W x 0=none):jq W x = .tuple ⟨[.int .i64 0,.int .i64 3]⟩:=by unfold jq fI fE;rw[h];rfl
def yR(W:List (Int×Int×Int))(t w:Int):Value:=if w<0∨4<w then .tuple ⟨[.int .i64 0,.int .i64 3]⟩ else jq W (9,t,w)
def sZ(W:List (Int×Int×Int))(r lv:Int):Value:=if (lv<0∨6≤lv)∨r=0 then .tuple ⟨[.int .i64 0,.int .i64 3]⟩ else if 0<r then jq W (9,r,5+lv) else jq W (8,IntKind.i64.wrap (-1-r),1+lv)
theorem AL:∀ (W:List (Int×Int×Int)) (i:Nat),(gd W).drop (i*3)=gd (W.drop i)
 |W,0=>by simp
 | [],i+1=>by simp[gd]
 |y::ys,i+1=>by
  have:(i+1)*3=i*3+3:=by omega
  rw[this];simp only[List.drop_succ_cons];rw[←AL ys i];simp[gd,WU]
theorem ZV:prog.eqGuardType prog.depth 101=false:=by kernel_rfl
def PR(x y:Int×Int×Int):AP Bool:=cond (x.1==y.1) (cond (x.2.1==y.2.1) (cond (x.2.2==y.2.2) (.pure true) (.pure false)) (.pure false)) (.pure false)
theorem UQ(x y:Int×Int×Int):cj prog 12 101 (.agg ⟨WU x⟩) (.agg ⟨WU y⟩)=PR x y:=by kernel_rfl
theorem PS(x y:Int×Int×Int):PR x y = .pure (decide (x=y)):=by
 obtain⟨a,b,c⟩:=x;obtain⟨a',b',c'⟩:=y;have q:∀ x y:Int,(x==y)=decide (x=y):=fun x y=>rfl;unfold PR;by_cases h1:a=a'<;>by_cases h2:b=b'<;>by_cases h3:c=c'<;>simp[q,h1,h2,h3]
theorem eqP(a b c a' b' c':Int)(cx cy:Bool):dN prog .eql 101 cx cy (.agg ⟨[.int .u8 a,.int .i64 b,.int .i64 c]⟩) (.agg ⟨[.int .u8 a',.int .i64 b',.int .i64 c']⟩) = .pure (.value (.bool (decide ((a,b,c)=(a',b',c'))))):=by
 have h:=UQ (a,b,c) (a',b',c');simp only[WU] at h;simp only[dN,eE,b9,ZV,Bool.not_false,cond_true,h,PS,AP.bind]
theorem PU{W:List (Int×Int×Int)}{i:Nat}(hi:i<W.length)(x:Int×Int×Int)(b:Int):ot (W.drop i) x b=if W[i]=x then some b else ot (W.drop (i+1)) x (b+1):=by
 rw[List.drop_eq_getElem_cons hi,ot]
theorem pN(W:List (Int×Int×Int))(x:Int×Int×Int):Plain (jq W x) := .tuple _ (by simp;exact⟨.int _ _,.int _ _⟩)
theorem yS(a b:Int):Plain (.tuple ⟨[.int .i64 a,.int .i64 b]⟩) := .tuple _ (by simp;exact⟨.int _ _,.int _ _⟩)
noncomputable def jj:List Value→Option (AP Value)
 | [.pointer (some p),.agg ⟨[.int .u8 k,.int .i64 x,.int .i64 y]⟩]=>some ((Ll (.pointer (some p))).bind fun W => .pure (jq W (k,x,y)))
 | _=>none
theorem EF:bG prog 169 jj:=by
 refine bM (aV .nil) bU ?_ ?_ ?_
 ·intro args m hm;unfold jj at hm;split at hm
  ·obtain rfl:=Option.some.inj hm;exact(qq _).bind fun l => .pure _
  ·simp at hm
 ·intro args m h v hm e;unfold jj at hm;split at hm
  ·obtain rfl:=Option.some.inj hm;obtain⟨l,hl,e⟩:=aJ e;rw[aF] at e;obtain rfl:=Option.some.inj e;exact pN _ _
  ·simp at hm
 ·intro args m h N v hm hR hlt e;unfold jj at hm;split at hm
  ·rename_i p k x y;obtain rfl:=Option.some.inj hm;obtain⟨W,hl,e⟩:=aJ e;rw[aF] at e;obtain rfl:=Option.some.inj e;obtain⟨lb,ro,S,wb,c,JJ,hp,hb,qm,hw,rQ,Ej⟩:=PO hl;cases hp;have zG:=hlt _ _ hb;have hwN:=hlt _ _ hw;clear hm hl hlt hR e;refine ay (N:=28) func169 rfl rfl fun z hP hO hro hN hQ=>?_
   repeat' first|simp(disch:=first|omega|assumption) only[go_sem, *] | (apply xs<;>intro _)<;>try omega
   refine a_ (fun t m h' n'=>∃ i:Nat,i≤W.length∧t=W.length-i∧m.n=28∧m.fF=[]∧m.get 0 = .pointer (some ⟨lb,0,none⟩)∧m.get 3 = .pointer (some ⟨N,0,none⟩)∧m.get 6 = .int .i64 i∧n'=N+1∧(∀ i,i<N→h'.get i=h.get i)∧h'.get N=row [.int .u8 k,.int .i64 x,.int .i64 y]∧ot W (k,x,y) 0=ot (W.drop i) (k,x,y) i) W.length ?_ ?_
   ·refine⟨0,by omega,by omega,?_⟩;simp(disch:=first|omega|assumption) only[go_sem, *];exact fun i hi=>by simp(disch:=omega) only[az]
   ·rintro t m h' n' ih ⟨i,hi,rfl,m1,m2,m3,m4,m5,rfl,q1,q2,q3⟩;have hb':=(q1 _ zG).trans hb;have hw':=(q1 _ hwN).trans hw
    rcases Nat.lt_or_ge i W.length with hlt |hge
    ·have e7:(i:Int)<W.length:=by omega
     rw[PU hlt] at q3;obtain⟨⟨k',x',y'⟩,hwi⟩:∃ w,W[i]=w:=⟨_,rfl⟩;have hrow:((gd W).drop (i*3)).take 3=[.int .u8 k',.int .i64 x',.int .i64 y']:=by
      rw[AL,List.drop_eq_getElem_cons hlt,hwi];simp[gd,WU]
     have VN:(gd W).length=W.length*3:=jP W;rw[hwi] at q3;by_cases he:(k',x',y')=(k,x,y)
     ·rw[if_pos he] at q3;rw[HA q3] at hQ;clear hwi q3
      repeat' first|simp(disch:=first|omega|assumption) only[go_sem, *,eqP] | (apply xs<;>intro _)<;>try omega | ((with_reducible refine b8 6 ?_);refine dw 28 6 adx (by first | (simp only[go_sem, *];done)|rfl) (by kernel_rfl) (by kernel_rfl) ?_)
      all_goals exact q1
     ·rw[if_neg he] at q3;clear hwi
      repeat' first|simp(disch:=first|omega|assumption) only[go_sem, *,eqP] | (apply xs<;>intro _)<;>try omega | ((with_reducible refine b8 6 ?_);refine dw 28 6 adx (by first | (simp only[go_sem, *];done)|rfl) (by kernel_rfl) (by kernel_rfl) ?_)
      refine ih (W.length-(i+1)) _ _ _ qJ ⟨i+1,by omega,rfl,?_⟩;have PG:((i+1:Nat):Int)=(i:Int)+1:=by omega
      rw[PG];clear ih;simp(disch:=first|omega|assumption) only[go_sem, *]
      all_goals exact q1
    ·have e7: ¬ (i:Int)<W.length:=by omega
     rw[List.drop_eq_nil_of_le hge,ot] at q3;rw[HB q3] at hQ;clear q3
     repeat' first|simp(disch:=first|omega|assumption) only[go_sem, *] | (apply xs<;>intro _)<;>try omega
     all_goals exact q1
  ·simp at hm
noncomputable abbrev OrF:Over:=gG [(169,jj)]
theorem Xj:cU prog OrF:=aV (.cons EF .nil)
noncomputable def ep:List Value→Option (AP Value)
 | [.pointer (some p),.int .i64 t,.int .i64 w]=>some ((Ll (.pointer (some p))).bind fun W => .pure (yR W t w))
 | _=>none
noncomputable def dB:List Value→Option (AP Value)
 | [.pointer (some p),.int .i64 r,.int .i64 lv]=>some ((Ll (.pointer (some p))).bind fun W => .pure (sZ W r lv))
 | _=>none
theorem EG:bG prog 93 ep:=by
 refine bM Xj bU ?_ ?_ ?_
 ·intro args m hm;unfold ep at hm;split at hm
  ·obtain rfl:=Option.some.inj hm;exact(qq _).bind fun l => .pure _
  ·simp at hm
 ·intro args m h v hm e;unfold ep at hm;split at hm
  ·obtain rfl:=Option.some.inj hm;obtain⟨l,hl,e⟩:=aJ e;rw[aF] at e;obtain rfl:=Option.some.inj e;unfold yR;split
   ·exact yS _ _
   ·exact pN _ _
  ·simp at hm
 ·intro args m h N v hm hR hlt e;unfold ep at hm;split at hm
  ·rename_i p t w;obtain rfl:=Option.some.inj hm;obtain⟨W,hl,e⟩:=aJ e;rw[aF] at e;obtain rfl:=Option.some.inj e;have hrl:=fun h' hk z f d ops r K m n=>@cw _ _ _ _ h' hl z f d ops r K m n hk;have Fu:=bQ.of_lt hlt;clear hm e hR hlt;unfold yR;refine ay (N:=25) func93 rfl rfl fun z hP hO hro hN hQ=>?_;by_cases g1:w<0
   ·rw[if_pos (.inl g1)] at hQ
    repeat' first|simp(disch:=try exact yj) only[go_sem, *] | (apply xs<;>intro _)<;>try omega
    all_goals exact fun i hi=>by simp(disch:=omega) only[az]
   ·by_cases g2:4<w
    ·rw[if_pos (.inr g2)] at hQ
     repeat' first|simp(disch:=try exact yj) only[go_sem, *] | (apply xs<;>intro _)<;>try omega
     all_goals exact fun i hi=>by simp(disch:=omega) only[az]
    ·rw[if_neg qJ] at hQ;unfold jq at hQ
     repeat' first|simp(disch:=try exact yj) only[go_sem, *,jj,jq] | (apply xs<;>intro _)<;>try omega
     all_goals exact fun i hi=>by simp(disch:=omega) only[az]
  ·simp at hm
theorem PV:bG prog 89 dB:=by
 refine bM Xj bU ?_ ?_ ?_
 ·intro args m hm;unfold dB at hm;split at hm
  ·obtain rfl:=Option.some.inj hm;exact(qq _).bind fun l => .pure _
  ·simp at hm
 ·intro args m h v hm e;unfold dB at hm;split at hm
  ·obtain rfl:=Option.some.inj hm;obtain⟨l,hl,e⟩:=aJ e;rw[aF] at e;obtain rfl:=Option.some.inj e;unfold sZ;split
   ·exact yS _ _
   ·split<;>exact pN _ _
  ·simp at hm
 ·intro args m h N v hm hR hlt e;unfold dB at hm;split at hm
  ·rename_i p r lv;obtain rfl:=Option.some.inj hm;obtain⟨W,hl,e⟩:=aJ e;rw[aF] at e;obtain rfl:=Option.some.inj e;have hrl:=fun h' hk z f d ops r K m n=>@cw _ _ _ _ h' hl z f d ops r K m n hk;have Fu:=bQ.of_lt hlt;clear hm e hR hlt;unfold sZ;refine ay (N:=41) func89 rfl rfl fun z hP hO hro hN hQ=>?_;by_cases g1:lv<0
   ·rw[if_pos (.inl (.inl g1))] at hQ
    repeat' first|simp(disch:=try exact yj) only[go_sem, *] | (apply xs<;>intro _)<;>try omega
    all_goals exact fun i hi=>by simp(disch:=omega) only[az]
   ·by_cases g2:6≤lv
    ·rw[if_pos (.inl (.inr g2))] at hQ
     repeat' first|simp(disch:=try exact yj) only[go_sem, *] | (apply xs<;>intro _)<;>try omega
     all_goals exact fun i hi=>by simp(disch:=omega) only[az]
    ·by_cases g3:r=0
     ·rw[if_pos (.inr g3)] at hQ
      repeat' first|simp(disch:=try exact yj) only[go_sem, *] | (apply xs<;>intro _)<;>try omega
      all_goals exact fun i hi=>by simp(disch:=omega) only[az]
     ·rw[if_neg qJ] at hQ;by_cases g4:0<r
      ·rw[if_pos g4] at hQ;unfold jq at hQ
       repeat' first|simp(disch:=try exact yj) only[go_sem, *,jj,jq] | (apply xs<;>intro _)<;>try omega
       all_goals exact fun i hi=>by simp(disch:=omega) only[az]
      ·rw[if_neg g4] at hQ;unfold jq at hQ
       repeat' first|simp(disch:=try exact yj) only[go_sem, *,jj,jq] | (apply xs<;>intro _)<;>try omega
       all_goals exact fun i hi=>by simp(disch:=omega) only[az]
  ·simp at hm
def uw(key:Int):List Int→Int
 | []=>0
 |c::r=>(if c≤key then 1 else 0)+uw key r
def Cq(key:Int)(xs:List Int)(i:Nat):Int:=uw key (xs.take i)
theorem vi(key:Int):∀ (A B:List Int),uw key (A++B)=uw key A+uw key B
 | [],B=>by simp[uw]
 |a::A,B=>by simp only[List.cons_append,uw,vi key A B];omega
theorem Lm{key:Int}{xs:List Int}{i:Nat}(hi:i<xs.length):Cq key xs (i+1)=Cq key xs i+(if xs.getD i 0≤key then 1 else 0):=by
 unfold Cq;rw[List.take_succ_eq_append_getElem hi,vi];simp[uw,List.getD,hi]
theorem rH(key:Int):∀ (xs:List Int),0≤uw key xs∧uw key xs≤xs.length
 | []=>by simp[uw]
 |c::r=>by have:=rH key r;simp only[uw,List.length_cons];split<;>omega
theorem HC{key:Int}{xs:List Int}{i:Nat}(hi:i≤xs.length):0≤Cq key xs i∧Cq key xs i≤i:=by
 have:=rH key (xs.take i);rw[List.length_take,Nat.min_eq_left hi] at this;exact this
def Je(kd dn:Int)(xs:List Int)(key:Int):Int:=if kd=2 then key.tmod dn else if kd=3 then uw key xs else 0
def ofV(kd dn:Int)(xs:List Int)(key:Int):Value:=if cq kd dn xs then .tuple ⟨[.int .i64 (Je kd dn xs key),.int .i64 0]⟩ else .tuple ⟨[.int .i64 0,.int .i64 2]⟩
theorem Ln{kd dn:Int}{xs:List Int}{key:Int}(hd:cq kd dn xs=true)(h0:0≤key):0≤Je kd dn xs key∧Je kd dn xs key<aC kd dn xs:=by
 unfold cq at hd;unfold Je aC;by_cases c2:kd=2
 ·subst c2;rw[if_neg qi,if_pos rfl] at hd;simp only[Bool.and_eq_true,decide_eq_true_eq] at hd;rw[if_pos rfl,if_pos rfl];exact⟨Int.tmod_nonneg _ h0,Int.tmod_lt_of_pos _ qJ⟩
 ·rw[if_neg c2,if_neg c2];by_cases c3:kd=3
  ·rw[if_pos c3,if_pos c3];have:=rH key xs;omega
  ·rw[if_neg c3,if_neg c3];omega
def qo:List Value→Option (AP Value)
 | [.agg ⟨[.int .u8 kd,.int .i64 dn,s]⟩,.int .u64 key]=>some ((eM .u64 s).bind fun xs=>cond (fR xs&&decide (0≤key∧key<18446744073709551616)) (.pure (ofV kd dn xs key)) (.fail ""))
 | _=>none
theorem Jf:bG prog 216 qo:=by
 refine ct Pt bU ?_;intro args m hm;unfold qo at hm;split at hm
 ·rename_i kd dn s key;simp only[Option.some.injEq] at hm;subst hm;refine⟨fun h v=>∃ xs,aN .u64 h s xs∧fR xs=true∧(0≤key∧key<18446744073709551616)∧v=ofV kd dn xs key,fun h n v s' hR e=>?_,fun h N v hlt hv=>?_⟩
  ·obtain⟨xs,hx,e⟩:=jf hR e;obtain⟨hl,e⟩:=ec e;obtain⟨h1,rfl⟩:=run_pure e;simp only[Bool.and_eq_true,decide_eq_true_eq] at hl;refine⟨h1,?_,xs,hx,hl.1,hl.2,rfl⟩;unfold ofV;split
   ·exact .tuple _ (by simp;exact⟨.int _ _,.int _ _⟩)
   ·exact .tuple _ (by simp;exact⟨.int _ _,.int _ _⟩)
  ·obtain⟨xs,hx,hl,⟨k0,k1⟩,rfl⟩:=hv;have hrd:=fun h' hk z f d ops r K m n=>@gI _ _ h' _ _ hx z f d ops r K m n hk;have Fu:=bQ.of_lt hlt;have zR:=(ql hl).1;obtain⟨a,cap,rfl,hA⟩:=hx.len;unfold ofV;by_cases hd:cq kd dn xs=true
   ·have he:dO (cq kd dn xs)=0:=by rw[hd];rfl
    rw[if_pos hd];by_cases c2:kd=2
    ·subst c2;have hd2:=hd;unfold cq at hd2;rw[if_neg qi,if_pos rfl] at hd2;simp only[Bool.and_eq_true,decide_eq_true_eq] at hd2;obtain⟨⟨d1,d2⟩,d3⟩:=hd2;have hk:Je 2 dn xs key=key.tmod dn:=rfl;have r1:=Int.tmod_nonneg dn k0;have r2:=Int.tmod_lt_of_pos key (show 0<dn by omega);have Lj: ¬ dn=0:=by omega
     rw[hk];clear hd d3 hA hk;refine ay (N:=43) func216 rfl rfl fun z hP hO hro hN hQ=>?_
     repeat' first|simp(disch:=try exact yj) only[go_sem, *,kf] | (apply xs<;>intro _)<;>try omega
     all_goals exact fun i hi=>by simp(disch:=omega) only[az]
    ·by_cases c3:kd=3
     ·subst c3;have hk:Je 3 dn xs key=Cq key xs xs.length:=by unfold Je Cq;rw[List.take_length];rfl
      have RS:xs.length<64:=by
       have hd2:=hd;unfold cq at hd2;rw[if_neg qi,if_neg qi,if_pos rfl] at hd2;simp only[Bool.and_eq_true,decide_eq_true_eq] at hd2;omega
      rw[hk];have hc0:Cq key xs 0=0:=rfl;clear hd;refine ay (N:=43) func216 rfl rfl fun z hP hO hro hN hQ=>?_
      repeat' first|simp(disch:=try exact yj) only[go_sem, *,kf] | (apply xs<;>intro _)<;>try omega
      refine a_ (fun t m h' n'=>∃ i:Nat,i≤xs.length∧t=xs.length-i∧m.n=43∧m.fF=[]∧m.get 1 = .int .u64 key∧m.get 2 = .pointer (some ⟨N,0,none⟩)∧m.get 7 = .int .i64 (Cq key xs i)∧m.get 8 = .int .i64 i∧n'=N+1∧(∀ i,i<N→h'.get i=h.get i)∧h'.get N=row [.int .u8 3,.int .i64 dn,.slice a xs.length cap]) xs.length ?_ ?_
      ·refine⟨0,by omega,by omega,?_⟩;rw[hc0];simp(disch:=try exact yj) only[go_sem, *];exact fun i hi=>by simp(disch:=omega) only[az]
      ·clear hc0 hrd hx;rintro t m h' n' ih ⟨i,hi,rfl,m1,m2,m3,m4,m5,m6,rfl,q1,q2⟩;have hcr:=HC (key:=key) hi
       rcases Nat.lt_or_ge i xs.length with pH |hge
       ·obtain⟨bk,off,sp,L,ro,rfl,hb,hL⟩:=hA i pH;have zG:=Fu.lt hb;have hb':=(q1 _ zG).trans hb;have e1:(i:Int)<xs.length:=by omega
        have PG:(i:Int)+1=((i+1:Nat):Int):=by omega
        have hcs:=Lm (key:=key) pH;clear hA Fu;by_cases hle:xs.getD i 0≤key
        ·rw[if_pos hle] at hcs
         repeat' first|simp(disch:=try exact yj) only[go_sem, *] | (apply xs<;>intro _)<;>try omega
         refine ih (xs.length-(i+1)) _ _ _ qJ ⟨i+1,by omega,by omega,?_⟩;rw[hcs];clear ih;simp(disch:=try exact yj) only[go_sem, *]
         all_goals exact q1
        ·rw[if_neg hle,Int.add_zero] at hcs
         repeat' first|simp(disch:=try exact yj) only[go_sem, *] | (apply xs<;>intro _)<;>try omega
         refine ih (xs.length-(i+1)) _ _ _ qJ ⟨i+1,by omega,by omega,?_⟩;rw[hcs];clear ih;simp(disch:=try exact yj) only[go_sem, *]
         all_goals exact q1
       ·have e1: ¬ (i:Int)<xs.length:=by omega
        obtain rfl:i=xs.length:=by omega
        clear hA Fu
        repeat' first|simp(disch:=try exact yj) only[go_sem, *] | (apply xs<;>intro _)<;>try omega
        all_goals exact q1
     ·have hk:Je kd dn xs key=0:=by unfold Je;rw[if_neg c2,if_neg c3]
      rw[hk];clear hd hA;refine ay (N:=43) func216 rfl rfl fun z hP hO hro hN hQ=>?_
      repeat' first|simp(disch:=try exact yj) only[go_sem, *,kf] | (apply xs<;>intro _)<;>try omega
      all_goals exact fun i hi=>by simp(disch:=omega) only[az]
   ·have he:dO (cq kd dn xs)=2:=by unfold dO;rw[if_neg hd]
    rw[if_neg hd];clear hA hd;refine ay (N:=43) func216 rfl rfl fun z hP hO hro hN hQ=>?_
    repeat' first|simp(disch:=try exact yj) only[go_sem, *,kf] | (apply xs<;>intro _)<;>try omega
    all_goals exact fun i hi=>by simp(disch:=omega) only[az]
 ·simp at hm
def bh(i n:Int):Int:=if n<1 then 0 else (i.tmod n+n).tmod n
theorem cZ{i n:Int}:0≤bh i n∧(0<n→bh i n<n):=by
 unfold bh;split
 ·omega
 ·have h1 : -n<i.tmod n:=Int.lt_tmod_of_pos i qJ;exact⟨Int.tmod_nonneg _ qJ,fun _=>Int.tmod_lt_of_pos _ qJ⟩
def jT:List Value→Option (AP Value)
 | [.int .i64 i,.int .i64 n]=>if n≤100000 then some (.pure (.int .i64 (bh i n))) else none
 | _=>none
theorem UR{i n:Int}(h:n≤100000):jT [.int .i64 i,.int .i64 n]=some (.pure (.int .i64 (bh i n))):=if_pos h
theorem afK:bG prog 37 jT:=by
 refine bM (O:=gG []) (aV .nil) bU ?_ ?_ ?_
 ·intro args m hm;unfold jT at hm;split at hm
  ·split at hm
   ·obtain rfl:=Option.some.inj hm;exact .pure _
   ·simp at hm
  ·simp at hm
 ·intro args m h v hm e;unfold jT at hm;split at hm
  ·split at hm
   ·obtain rfl:=Option.some.inj hm;rw[aF] at e;obtain rfl:=Option.some.inj e;exact .int _ _
   ·simp at hm
  ·simp at hm
 ·intro args m h N v hm hR hlt e;unfold jT at hm;split at hm
  ·rename_i i n;split at hm
   ·rename_i hn;obtain rfl:=Option.some.inj hm;rw[aF] at e;obtain rfl:=Option.some.inj e;clear hlt hR;unfold bh;by_cases c:n<1
    ·rw[if_pos c];refine ay (N:=14) func37 rfl rfl fun z hP hO hro hN hQ=>?_
     repeat' first|simp(disch:=first|omega|assumption) only[go_sem, *] | (apply xs<;>intro _)<;>try omega
     all_goals exact fun _ _=>trivial
    ·rw[if_neg c];have a1 : -n<i.tmod n:=Int.lt_tmod_of_pos i qJ;have a2:=Int.tmod_lt_of_pos i (show 0<n by omega);have hn0: ¬ n=0:=by omega
     obtain⟨x,hx⟩:∃ x,i.tmod n=x:=⟨_,rfl⟩;rw[hx] at a1 a2 ⊢;obtain⟨y,hy⟩:∃ y,(x+n).tmod n=y:=⟨_,rfl⟩;have b1:0≤y:=by rw[←hy];exact Int.tmod_nonneg _ qJ
     have b2:y<n:=by rw[←hy];exact Int.tmod_lt_of_pos _ qJ
     rw[hy];refine ay (N:=14) func37 rfl rfl fun z hP hO hro hN hQ=>?_
     repeat' first|simp(disch:=first|omega|assumption) only[go_sem, *] | (apply xs<;>intro _)<;>try omega
     all_goals exact fun _ _=>trivial
   ·simp at hm
  ·simp at hm
def pL:List Value→Option (AP Value)
 | [.int .u64 w]=>some (.pure (.int .i64 (IntKind.i64.wrap (w.tmod 65536))))
 | _=>none
theorem afL:bG prog 217 pL:=by
 refine bM (O:=gG []) (aV .nil) bU ?_ ?_ ?_
 ·intro args m hm;unfold pL at hm;split at hm
  ·obtain rfl:=Option.some.inj hm;exact .pure _
  ·simp at hm
 ·intro args m h v hm e;unfold pL at hm;split at hm
  ·obtain rfl:=Option.some.inj hm;rw[aF] at e;obtain rfl:=Option.some.inj e;exact .int _ _
  ·simp at hm
 ·intro args m h N v hm hR hlt e;unfold pL at hm;split at hm
  ·rename_i w;obtain rfl:=Option.some.inj hm;rw[aF] at e;obtain rfl:=Option.some.inj e;clear hlt hR;refine ay (N:=6) func217 rfl rfl fun z hP hO hro hN hQ=>?_
   repeat' first|simp(disch:=first|omega|assumption) only[go_sem, *] | (apply xs<;>intro _)<;>try omega
   first|exact⟨trivial,fun _ _=>trivial⟩ |exact fun _ _=>trivial
  ·simp at hm
noncomputable def Lp (i:Nat) (PW:Value):List Value→Option (AP Value)
 | [.pointer none]=>some (.pure PW)
 | [.pointer (some ⟨b,0,none⟩)]=>some (AP.row b fun (S:List Value) _=>match (S[i]? : Option Value) with |some v => .pure v |none => .fail "")
 | _=>none
theorem nW{O:Over}(hO:cU prog O){f:FuncId}{i:Nat}{PW:Value}(hp:Plain PW)(Hn:∀ h N,cE prog O f [.pointer none] h N fun v2 h2 n2=>v2=PW∧∀ i,i<N→h2.get i=h.get i)
  (H:∀ b S ro v h N,h.get b=some (.cells (PT.ofList .leaf 0 S) ro)→S[i]? = some v→cE prog O f [.pointer (some ⟨b,0,none⟩)] h N fun v2 h2 n2=>v2=v∧∀ i,i<N→h2.get i=h.get i):bG prog f (Lp i PW):=by
 refine xE hO bU ?_;intro args m hm h n N Old eS v h1 n1 hr hold hid hn;have hlt:∀ i B,h.get i=some B→i<N:=fun i B hi=>(hid i (hold.id i B hi)).1;unfold Lp at hm;split at hm
 ·obtain rfl:=Option.some.inj hm;simp only[AP.run,aO.ok.injEq,HS.mk.injEq,S0] at hr;obtain⟨rfl,rfl,rfl,-,-⟩:=hr;obtain⟨k,v2,h2,n2,e,rfl,hk⟩:=Hn h N;exact⟨k,_,h2,n2,e,fun i=>i,fun i h1 h2=>by omega,fun i j _ _ _ _ h=>h,hp.ren,fun i B hi => .inl ⟨hi,by rw[hk i (hlt i B hi)];exact hi⟩⟩
 ·rename_i b;obtain rfl:=Option.some.inj hm;obtain⟨S,ro,hb,hr⟩:=nJ hr;split at hr
  ·rename_i w hw;simp only[AP.run,aO.ok.injEq,HS.mk.injEq,S0] at hr;obtain⟨rfl,rfl,rfl,-,-⟩:=hr;obtain⟨k,v2,h2,n2,e,rfl,hk⟩:=H b S ro w h N hb hw;have ho:Old v2:=hold.cells b _ ro i v2 hb (by rw[PT.aQ];exact hw);exact⟨k,_,h2,n2,e,fun i=>i,fun i h1 h2=>by omega,fun i j _ _ _ _ h=>h,.old _ ho,fun i B hi => .inl ⟨hi,by rw[hk i (hlt i B hi)];exact hi⟩⟩
  ·simp[AP.run] at hr
 ·simp at hm
noncomputable abbrev Ez:=Lp 1 (.pointer none)
theorem afM:bG prog 19 Ez:=by
 refine nW (O:=gG []) (aV .nil) .gE (fun h N=>?_) (fun b S ro v h N hb hv=>?_)
 ·refine ay (N:=10) func19 rfl rfl fun z hP hO hro hN hQ=>?_
  repeat' first|simp(disch:=first|omega|assumption) only[go_sem, *] | (apply xs<;>intro _)<;>try omega
  all_goals first|exact⟨trivial,fun _ _=>trivial⟩ |exact fun _ _=>trivial
 ·refine ay (N:=10) func19 rfl rfl fun z hP hO hro hN hQ=>?_
  repeat' first|simp(disch:=first|omega|assumption) only[go_sem, *] | (apply xs<;>intro _)<;>try omega
  all_goals first|exact⟨trivial,fun _ _=>trivial⟩ |exact fun _ _=>trivial
noncomputable abbrev Jd:=Lp 0 (.pointer none)
theorem afN:bG prog 21 Jd:=by
 refine nW (O:=gG []) (aV .nil) .gE (fun h N=>?_) (fun b S ro v h N hb hv=>?_)
 ·refine ay (N:=10) func21 rfl rfl fun z hP hO hro hN hQ=>?_
  repeat' first|simp(disch:=first|omega|assumption) only[go_sem, *] | (apply xs<;>intro _)<;>try omega
  all_goals first|exact⟨trivial,fun _ _=>trivial⟩ |exact fun _ _=>trivial
 ·refine ay (N:=10) func21 rfl rfl fun z hP hO hro hN hQ=>?_
  repeat' first|simp(disch:=first|omega|assumption) only[go_sem, *] | (apply xs<;>intro _)<;>try omega
  all_goals first|exact⟨trivial,fun _ _=>trivial⟩ |exact fun _ _=>trivial
noncomputable abbrev EA:=Lp 3 (.pointer none)
theorem afO:bG prog 11 EA:=by
 refine nW (O:=gG []) (aV .nil) .gE (fun h N=>?_) (fun b S ro v h N hb hv=>?_)
 ·refine ay (N:=10) func11 rfl rfl fun z hP hO hro hN hQ=>?_
  repeat' first|simp(disch:=first|omega|assumption) only[go_sem, *] | (apply xs<;>intro _)<;>try omega
  all_goals first|exact⟨trivial,fun _ _=>trivial⟩ |exact fun _ _=>trivial
 ·refine ay (N:=10) func11 rfl rfl fun z hP hO hro hN hQ=>?_
  repeat' first|simp(disch:=first|omega|assumption) only[go_sem, *] | (apply xs<;>intro _)<;>try omega
  all_goals first|exact⟨trivial,fun _ _=>trivial⟩ |exact fun _ _=>trivial
noncomputable abbrev yO:=Lp 2 (.pointer none)
theorem ZW:bG prog 15 yO:=by
 refine nW (O:=gG []) (aV .nil) .gE (fun h N=>?_) (fun b S ro v h N hb hv=>?_)
 ·refine ay (N:=10) func15 rfl rfl fun z hP hO hro hN hQ=>?_
  repeat' first|simp(disch:=first|omega|assumption) only[go_sem, *] | (apply xs<;>intro _)<;>try omega
  all_goals first|exact⟨trivial,fun _ _=>trivial⟩ |exact fun _ _=>trivial
 ·refine ay (N:=10) func15 rfl rfl fun z hP hO hro hN hQ=>?_
  repeat' first|simp(disch:=first|omega|assumption) only[go_sem, *] | (apply xs<;>intro _)<;>try omega
  all_goals first|exact⟨trivial,fun _ _=>trivial⟩ |exact fun _ _=>trivial
noncomputable def yP:List Value→Option (AP Value)
 | [.pointer none]=>some (.pure (.int .i64 0))
 | [.pointer (some ⟨b,0,none⟩)]=>some (AP.row b fun (S:List Value) _=>match (S[1]? : Option Value) with |some (.slice _ k _) => .pure (.int .i64 k) | _ => .fail "")
 | _=>none
theorem afP:bG prog 25 yP:=by
 refine bM (O:=gG []) (aV .nil) bU ?_ ?_ ?_
 ·intro args m hm;unfold yP at hm;split at hm
  ·obtain rfl:=Option.some.inj hm;exact .pure _
  ·obtain rfl:=Option.some.inj hm;refine dW fun S ro=>?_;split
   ·exact .pure _
   ·exact .fail _
  ·simp at hm
 ·intro args m h v hm e;unfold yP at hm;split at hm
  ·obtain rfl:=Option.some.inj hm;rw[aF] at e;obtain rfl:=Option.some.inj e;exact .int _ _
  ·obtain rfl:=Option.some.inj hm;obtain⟨S,ro,hb,e⟩:=cA e;split at e
   ·rw[aF] at e;obtain rfl:=Option.some.inj e;exact .int _ _
   ·simp[AP.look] at e
  ·simp at hm
 ·intro args m h N v hm hR hlt e;unfold yP at hm;split at hm
  ·obtain rfl:=Option.some.inj hm;rw[aF] at e;obtain rfl:=Option.some.inj e;clear hlt hR;refine ay (N:=10) func25 rfl rfl fun z hP hO hro hN hQ=>?_
   repeat' first|simp(disch:=first|omega|assumption) only[go_sem, *] | (apply xs<;>intro _)<;>try omega
   all_goals first|exact⟨trivial,fun _ _=>trivial⟩ |exact fun _ _=>trivial
  ·obtain rfl:=Option.some.inj hm;obtain⟨S,ro,hb,e⟩:=cA e;split at e
   ·rename_i a k c h1;rw[aF] at e;obtain rfl:=Option.some.inj e;clear hlt hR e;refine ay (N:=10) func25 rfl rfl fun z hP hO hro hN hQ=>?_
    repeat' first|simp(disch:=first|omega|assumption) only[go_sem, *] | (apply xs<;>intro _)<;>try omega
    all_goals first|exact⟨trivial,fun _ _=>trivial⟩ |exact fun _ _=>trivial
   ·simp[AP.look] at e
  ·simp at hm
@[go_sem] theorem afQ{b:Nat}:Ez [.pointer (some ⟨b,0,none⟩)]=some (AP.row b fun (S:List Value) _=>match (S[1]? : Option Value) with |some v => .pure v |none => .fail ""):=rfl
@[go_sem] theorem acd:Ez [.pointer none]=some (.pure (.pointer none)):=rfl
@[go_sem] theorem afR{b:Nat}:Jd [.pointer (some ⟨b,0,none⟩)]=some (AP.row b fun (S:List Value) _=>match (S[0]? : Option Value) with |some v => .pure v |none => .fail ""):=rfl
@[go_sem] theorem ace:Jd [.pointer none]=some (.pure (.pointer none)):=rfl
@[go_sem] theorem afS{b:Nat}:EA [.pointer (some ⟨b,0,none⟩)]=some (AP.row b fun (S:List Value) _=>match (S[3]? : Option Value) with |some v => .pure v |none => .fail ""):=rfl
@[go_sem] theorem acf:EA [.pointer none]=some (.pure (.pointer none)):=rfl
@[go_sem] theorem acg{b:Nat}:yO [.pointer (some ⟨b,0,none⟩)]=some (AP.row b fun (S:List Value) _=>match (S[2]? : Option Value) with |some v => .pure v |none => .fail ""):=rfl
@[go_sem] theorem ZX:yO [.pointer none]=some (.pure (.pointer none)):=rfl
@[go_sem] theorem afT{b:Nat}:yP [.pointer (some ⟨b,0,none⟩)]=some (AP.row b fun (S:List Value) _=>match (S[1]? : Option Value) with |some (.slice _ k _) => .pure (.int .i64 k) | _ => .fail ""):=rfl
@[go_sem] theorem ach:yP [.pointer none]=some (.pure (.int .i64 0)):=rfl
def AJ:List Value→Option (AP Value)
 | [.int .u64 w]=>if 0≤w∧w<18446744073709551616 then some (.pure (.int .u64 (w.tdiv 65536))) else none
 | _=>none
theorem afU:bG prog 219 AJ:=by
 refine bM (O:=gG []) (aV .nil) bU ?_ ?_ ?_
 ·intro args m hm;unfold AJ at hm;split at hm
  ·split at hm
   ·obtain rfl:=Option.some.inj hm;exact .pure _
   ·simp at hm
  ·simp at hm
 ·intro args m h v hm e;unfold AJ at hm;split at hm
  ·split at hm
   ·obtain rfl:=Option.some.inj hm;rw[aF] at e;obtain rfl:=Option.some.inj e;exact .int _ _
   ·simp at hm
  ·simp at hm
 ·intro args m h N v hm hR hlt e;unfold AJ at hm;split at hm
  ·rename_i w;split at hm
   ·rename_i hc;obtain rfl:=Option.some.inj hm;rw[aF] at e;obtain rfl:=Option.some.inj e;clear hlt hR;have q1:0≤w.tdiv 65536∧w.tdiv 65536<18446744073709551616:=by rw[Int.tdiv_eq_ediv_of_nonneg hc.1];omega
    obtain⟨q1,q2⟩:=q1;refine ay (N:=5) func219 rfl rfl fun z hP hO hro hN hQ=>?_
    repeat' first|simp(disch:=first|omega|assumption) only[go_sem, *] | (apply xs<;>intro _)<;>try omega
    all_goals first|exact⟨trivial,fun _ _=>trivial⟩ |exact fun _ _=>trivial
   ·simp at hm
  ·simp at hm
def AK:List Value→Option (AP Value)
 | [.int .u64 g,.int .i64 t]=>if (0≤g∧g≤1099511627775)∧0≤t∧t≤1024 then some (.pure (.tuple ⟨[.int .u64 (t+65536*g),.int .i64 0]⟩)) else none
 | _=>none
theorem afV:bG prog 218 AK:=by
 refine bM (O:=gG []) (aV .nil) bU ?_ ?_ ?_
 ·intro args m hm;unfold AK at hm;split at hm
  ·split at hm
   ·obtain rfl:=Option.some.inj hm;exact .pure _
   ·simp at hm
  ·simp at hm
 ·intro args m h v hm e;unfold AK at hm;split at hm
  ·split at hm
   ·obtain rfl:=Option.some.inj hm;rw[aF] at e;obtain rfl:=Option.some.inj e;exact .tuple _ (by simp;exact⟨.int _ _,.int _ _⟩)
   ·simp at hm
  ·simp at hm
 ·intro args m h N v hm hR hlt e;unfold AK at hm;split at hm
  ·rename_i g t;split at hm
   ·rename_i hc;obtain rfl:=Option.some.inj hm;rw[aF] at e;obtain rfl:=Option.some.inj e;clear hlt hR;obtain⟨⟨c1,c2⟩,c3,c4⟩:=hc;refine ay (N:=21) func218 rfl rfl fun z hP hO hro hN hQ=>?_
    repeat' first|simp(disch:=first|omega|assumption) only[go_sem, *] | (apply xs<;>intro _)<;>try omega
    all_goals first|exact⟨trivial,fun _ _=>trivial⟩ |exact fun _ _=>trivial
   ·simp at hm
  ·simp at hm
theorem PX{T:List Value}{a b c:Value}(h4:T[4]? = some a)(h5:T[5]? = some b)(h6:T[6]? = some c):List.take 3 (List.drop 4 T)=[a,b,c]∧Nat.ble 7 T.length=true:=by
 have hl:6<T.length:=(List.getElem?_eq_some_iff.1 h6).1;refine⟨?_,Nat.ble_eq_true_of_le hl⟩;rw[List.drop_eq_getElem_cons qJ,List.drop_eq_getElem_cons qJ,List.drop_eq_getElem_cons qJ];rw[(List.getElem?_eq_some_iff.1 h4).2,(List.getElem?_eq_some_iff.1 h5).2,(List.getElem?_eq_some_iff.1 h6).2];rfl
noncomputable def td:Value→AP (Int×Int×List Int)
 | .pointer (some ⟨b,0,none⟩)=>AP.row b fun (S:List Value) _=>match (S[0]? : Option Value) with
  |some (.pointer (some ⟨lb,0,none⟩))=>AP.row lb fun (T:List Value) _=>match (T[4]? : Option Value),(T[5]? : Option Value),(T[6]? : Option Value) with
   |some (.int .u8 kd),some (.int .i64 dn),some s=>(eM .u64 s).bind fun xs=>cond (fR xs) (.pure (kd,dn,xs)) (.fail "")
   | _,_,_ => .fail ""
  | _ => .fail ""
 | _ => .fail ""
theorem vk(v:Value):Reads (td v):=by
 unfold td;split
 ·refine dW fun S ro=>?_;split
  ·refine dW fun T ro=>?_;split
   ·exact nI.bind fun xs => .cond (.pure _) (.fail _)
   ·exact .fail _
  ·exact .fail _
 ·exact .fail _
theorem yT{v:Value}{h:PT aj}{x:Int×Int×List Int}(hR:Am.Rows h)(e:(td v).look h=some x):∃ b lb S ro T Es s,v = .pointer (some ⟨b,0,none⟩)∧h.get b=some (.cells (PT.ofList .leaf 0 S) ro)∧S[0]? = some (.pointer (some ⟨lb,0,none⟩))∧h.get lb=some (.cells (PT.ofList .leaf 0 T) Es)∧
  T[4]? = some (.int .u8 x.1)∧T[5]? = some (.int .i64 x.2.1)∧T[6]? = some s∧aN .u64 h s x.2.2∧fR x.2.2=true:=by
 unfold td at e;split at e
 ·rename_i b;obtain⟨S,ro,hb,e⟩:=cA e;split at e
  ·rename_i lb h0;obtain⟨T,Es,hl,e⟩:=cA e;split at e
   ·rename_i kd dn s h4 h5 h6;obtain⟨xs,e1,e⟩:=aJ e;obtain⟨hc,e⟩:=f_ e;rw[aF] at e;obtain rfl:=Option.some.inj e;exact⟨b,lb,S,ro,T,Es,s,rfl,hb,h0,hl,h4,h5,h6,oW e1 hR,hc⟩
   ·simp[AP.look] at e
  ·simp[AP.look] at e
 ·simp[AP.look] at e
theorem PY{h:PT aj}{b lb:Nat}{S T:List Value}{ro Es:Bool}{kd dn:Int}{s:Value}{xs:List Int}(hb:h.get b=some (.cells (PT.ofList .leaf 0 S) ro))(h0:S[0]? = some (.pointer (some ⟨lb,0,none⟩)))(hl:h.get lb=some (.cells (PT.ofList .leaf 0 T) Es))
  (h4:T[4]? = some (.int .u8 kd)) (h5:T[5]? = some (.int .i64 dn)) (h6:T[6]? = some s) (hs:aN .u64 h s xs) (hx:fR xs=true):(td (.pointer (some ⟨b,0,none⟩))).look h=some (kd,dn,xs):=by
 unfold td;simp only[AP.row,oX,hb,kN,h0,hl,h4,h5,h6];rw[mG,hs.look,Option.bind_some,hx];rfl
noncomputable def sW:List Value→Option (AP Value)
 | [.agg ⟨[_,.pointer (some p)]⟩]=>some ((td (.pointer (some p))).bind fun x => .pure (.int .i64 (if cq x.1 x.2.1 x.2.2 then aC x.1 x.2.1 x.2.2 else 0)))
 | _=>none
noncomputable def rF:List Value→Option (AP Value)
 | [.agg ⟨[_,.pointer (some p)]⟩,.int .u64 key]=>some ((td (.pointer (some p))).bind fun x=>cond (decide (0≤key∧key<18446744073709551616)) (.pure (.int .i64 (if cq x.1 x.2.1 x.2.2 then Je x.1 x.2.1 x.2.2 key else 0))) (.fail ""))
 | _=>none
noncomputable abbrev Ovk:Over:=gG [(100,fk),(216,qo)]
theorem Xk:cU prog Ovk:=aV (.cons yx (.cons Jf .nil))
theorem US:bG prog 38 sW:=by
 refine bM Xk bU ?_ ?_ ?_
 ·intro args m hm;unfold sW at hm;split at hm
  ·obtain rfl:=Option.some.inj hm;exact(vk _).bind fun _ => .pure _
  ·simp at hm
 ·intro args m h v hm e;unfold sW at hm;split at hm
  ·obtain rfl:=Option.some.inj hm;obtain⟨l,hl,e⟩:=aJ e;rw[aF] at e;obtain rfl:=Option.some.inj e;exact .int _ _
  ·simp at hm
 ·intro args m h N v hm hR hlt e;unfold sW at hm;split at hm
  ·rename_i A p;obtain rfl:=Option.some.inj hm;obtain⟨⟨kd,dn,xs⟩,hl,e⟩:=aJ e;rw[aF] at e;obtain rfl:=Option.some.inj e;obtain⟨b,lb,S,ro,T,Es,s,hp,hb,h0,hlb,h4,h5,h6,hx,NC⟩:=yT hR hl;cases hp;simp only at h4 h5 hx NC ⊢;obtain⟨t34,tle⟩:=PX h4 h5 h6;have zG:=hlt _ _ hb;have hlN:=hlt _ _ hlb;have Fu:=bQ.of_lt hlt;have hrd:=fun h' hk z f d ops r K m n=>@gI _ _ h' _ _ hx z f d ops r K m n hk;clear hm e hR hlt hl;by_cases hd:cq kd dn xs=true
   ·rw[if_pos hd];refine ay (N:=19) func38 rfl rfl fun z hP hO hro hN hQ=>?_
    repeat' first|simp(disch:=try exact yj) only[go_sem, *,fk] | (apply xs<;>intro _)<;>try omega
    all_goals exact fun i hi=>by simp(disch:=omega) only[az]
   ·rw[if_neg hd];refine ay (N:=19) func38 rfl rfl fun z hP hO hro hN hQ=>?_
    repeat' first|simp(disch:=try exact yj) only[go_sem, *,fk] | (apply xs<;>intro _)<;>try omega
    all_goals exact fun i hi=>by simp(disch:=omega) only[az]
  ·simp at hm
theorem ZY:bG prog 149 rF:=by
 refine bM Xk bU ?_ ?_ ?_
 ·intro args m hm;unfold rF at hm;split at hm
  ·obtain rfl:=Option.some.inj hm;exact(vk _).bind fun _ => .cond (.pure _) (.fail _)
  ·simp at hm
 ·intro args m h v hm e;unfold rF at hm;split at hm
  ·obtain rfl:=Option.some.inj hm;obtain⟨l,hl,e⟩:=aJ e;obtain⟨hc,e⟩:=f_ e;rw[aF] at e;obtain rfl:=Option.some.inj e;exact .int _ _
  ·simp at hm
 ·intro args m h N v hm hR hlt e;unfold rF at hm;split at hm
  ·rename_i A p key;obtain rfl:=Option.some.inj hm;obtain⟨⟨kd,dn,xs⟩,hl,e⟩:=aJ e;obtain⟨hc,e⟩:=f_ e;rw[aF] at e;obtain rfl:=Option.some.inj e;obtain⟨b,lb,S,ro,T,Es,s,hp,hb,h0,hlb,h4,h5,h6,hx,NC⟩:=yT hR hl;cases hp;simp only at h4 h5 hx NC ⊢;obtain⟨t34,tle⟩:=PX h4 h5 h6;have hkk:=of_decide_eq_true hc;obtain⟨k0,k1⟩:=hkk;have zG:=hlt _ _ hb;have hlN:=hlt _ _ hlb;have Fu:=bQ.of_lt hlt;have hrd:=fun h' hk z f d ops r K m n=>@gI _ _ h' _ _ hx z f d ops r K m n hk;have FU:(fR xs&&decide (0≤key∧key<18446744073709551616))=true:=by rw[NC,hc];rfl
   clear hm e hR hlt hl hc;by_cases hd:cq kd dn xs=true
   ·have hv:ofV kd dn xs key = .tuple ⟨[.int .i64 (Je kd dn xs key),.int .i64 0]⟩:=if_pos hd;rw[if_pos hd];refine ay (N:=22) func149 rfl rfl fun z hP hO hro hN hQ=>?_
    repeat' first|simp(disch:=try exact yj) only[go_sem, *,qo] | (apply xs<;>intro _)<;>try omega
    all_goals exact fun i hi=>by simp(disch:=omega) only[az]
   ·have hv:ofV kd dn xs key = .tuple ⟨[.int .i64 0,.int .i64 2]⟩:=if_neg hd;rw[if_neg hd];refine ay (N:=22) func149 rfl rfl fun z hP hO hro hN hQ=>?_
    repeat' first|simp(disch:=try exact yj) only[go_sem, *,qo] | (apply xs<;>intro _)<;>try omega
    all_goals exact fun i hi=>by simp(disch:=omega) only[az]
  ·simp at hm
def zL(Wt:List (Int×Int×Int))(t:Int):Int:=fI Wt (9,t,0)
noncomputable def nV:List Value→Option (AP Value)
 | [.agg ⟨[_,.pointer (some ⟨b,0,none⟩)]⟩,.int .i64 t]=>some (AP.row b fun (S:List Value) _=>match (S[0]? : Option Value),(S[1]? : Option Value) with
  |some (.pointer (some p)),some (.pointer (some ⟨mb,0,none⟩))=>(Ll (.pointer (some p))).bind fun Wt=>AP.row mb fun (M:List Value) _=>match (M[0]? : Option Value) with
   |some (.slice (some ⟨wb,0,none⟩) n _)=>AP.row wb fun (L:List Value) _=>match (L[(zL Wt t).toNat]? : Option Value) with
    |some (.int .u64 x)=>cond (decide (0≤zL Wt t∧zL Wt t<n)) (.pure (.int .u64 x)) (.fail "")
    | _ => .fail ""
   | _ => .fail ""
  | _,_ => .fail "")
 | _=>none
noncomputable abbrev Okw:Over:=gG [(93,ep)]
theorem afW:cU prog Okw:=aV (.cons EG .nil)
theorem ZZ:bG prog 150 nV:=by
 refine bM afW bU ?_ ?_ ?_
 ·intro args m hm;unfold nV at hm;split at hm
  ·obtain rfl:=Option.some.inj hm;refine dW fun S ro=>?_;split
   ·refine(qq _).bind fun Wt=>dW fun M ro=>?_;split
    ·refine dW fun L ro=>?_;split
     ·exact .cond (.pure _) (.fail _)
     ·exact .fail _
    ·exact .fail _
   ·exact .fail _
  ·simp at hm
 ·intro args m h v hm e;unfold nV at hm;split at hm
  ·obtain rfl:=Option.some.inj hm;obtain⟨S,ro,hb,e⟩:=cA e;split at e
   ·obtain⟨Wt,hl,e⟩:=aJ e;obtain⟨M,Es,hm2,e⟩:=cA e;split at e
    ·obtain⟨L,ro3,hw,e⟩:=cA e;split at e
     ·obtain⟨hc,e⟩:=f_ e;rw[aF] at e;obtain rfl:=Option.some.inj e;exact .int _ _
     ·simp[AP.look] at e
    ·simp[AP.look] at e
   ·simp[AP.look] at e
  ·simp at hm
 ·intro args m h N v hm hR hlt e;unfold nV at hm;split at hm
  ·rename_i A b t;obtain rfl:=Option.some.inj hm;obtain⟨S,ro,hb,e⟩:=cA e;split at e
   ·rename_i p mb h0 h1;obtain⟨Wt,hl,e⟩:=aJ e;obtain⟨M,Es,hmb,e⟩:=cA e;split at e
    ·rename_i wb n c hM;obtain⟨L,ro3,hw,e⟩:=cA e;split at e
     ·rename_i x hL;obtain⟨hc,e⟩:=f_ e;rw[aF] at e;obtain rfl:=Option.some.inj e;have LO:=of_decide_eq_true hc;obtain⟨c1,c2⟩:=LO;have zG:=hlt _ _ hb;have hmN:=hlt _ _ hmb;have hwN:=hlt _ _ hw;have Fu:=bQ.of_lt hlt;have hrl:=fun h' hk z f d ops r K m n=>@cw _ _ _ _ h' hl z f d ops r K m n hk;have hwr:yR Wt t 0 = .tuple ⟨[.int .i64 (zL Wt t),.int .i64 (fE Wt (9,t,0))]⟩:=by unfold yR;rw[if_neg qJ];rfl
      clear hm e hR hlt hl hc;generalize zL Wt t=a at*;obtain⟨i,rfl⟩:=Int.eq_ofNat_of_zero_le c1;rw[Int.toNat_natCast] at hL;refine ay (N:=28) func150 rfl rfl fun z hP hO hro hN hQ=>?_
      repeat' first|simp(disch:=try exact yj) only[go_sem, *,ep] | (apply xs<;>intro _)<;>try omega
      all_goals exact fun i hi=>by simp(disch:=omega) only[az]
     ·simp[AP.look] at e
    ·simp[AP.look] at e
   ·simp[AP.look] at e
  ·simp at hm
def Jg(q0 q1 q2 q5 q7 q9 i:Int):Int:=if bh i ((q1-q0)+(q5-q2)+q9-q7)<q1-q0 then q0+bh i ((q1-q0)+(q5-q2)+q9-q7) else if bh i ((q1-q0)+(q5-q2)+q9-q7)<(q1-q0)+(q5-q2) then q2+bh i ((q1-q0)+(q5-q2)+q9-q7)-(q1-q0) else q7+bh i ((q1-q0)+(q5-q2)+q9-q7)-(q1-q0)-(q5-q2)
noncomputable def qp:List Value→Option (AP Value)
 | [.agg ⟨[_,.pointer (some ⟨b,0,none⟩)]⟩,.int .i64 i]=>some (AP.row b fun (S:List Value) _=>match (S[0]? : Option Value) with
  |some (.pointer (some ⟨lb,0,none⟩))=>AP.row lb fun (T:List Value) _=>match fC .i64 ((T.drop 16).take 10) with
   |some [q0,q1,q2,q3,q4,q5,q6,q7,q8,q9]=>cond (decide ((0≤q0∧q0≤q1∧q1≤q2∧q2≤q5∧q5≤q7∧q7≤q9∧q9≤50000)∧26≤T.length)) (.pure (.int .i64 (Jg q0 q1 q2 q5 q7 q9 i))) (.fail "")
   | _ => .fail ""
  | _ => .fail "")
 | _=>none
theorem HD{T:List Value}{q0 q1 q2 q3 q4 q5 q6 q7 q8 q9:Int}(h:fC .i64 ((T.drop 16).take 10)=some [q0,q1,q2,q3,q4,q5,q6,q7,q8,q9]):List.take 10 (List.drop 16 T)=[.int .i64 q0,.int .i64 q1,.int .i64 q2,.int .i64 q3,.int .i64 q4,.int .i64 q5,.int .i64 q6,.int .i64 q7,.int .i64 q8,.int .i64 q9]:=nH h
theorem UT:bG prog 85 qp:=by
 refine bM (O:=gG [(37,jT)]) (aV (.cons afK .nil)) bU ?_ ?_ ?_
 ·intro args m hm;unfold qp at hm;split at hm
  ·obtain rfl:=Option.some.inj hm;refine dW fun S ro=>?_;split
   ·refine dW fun T ro=>?_;split
    ·exact .cond (.pure _) (.fail _)
    ·exact .fail _
   ·exact .fail _
  ·simp at hm
 ·intro args m h v hm e;unfold qp at hm;split at hm
  ·obtain rfl:=Option.some.inj hm;obtain⟨S,ro,hb,e⟩:=cA e;split at e
   ·obtain⟨T,Es,hm2,e⟩:=cA e;split at e
    ·obtain⟨hc,e⟩:=f_ e;rw[aF] at e;obtain rfl:=Option.some.inj e;exact .int _ _
    ·simp[AP.look] at e
   ·simp[AP.look] at e
  ·simp at hm
 ·intro args m h N v hm hR hlt e;unfold qp at hm;split at hm
  ·rename_i A b i;obtain rfl:=Option.some.inj hm;obtain⟨S,ro,hb,e⟩:=cA e;split at e
   ·rename_i lb h0;obtain⟨T,Es,hlb,e⟩:=cA e;split at e
    ·rename_i q0 q1 q2 q3 q4 q5 q6 q7 q8 q9 hq;obtain⟨hc,e⟩:=f_ e;rw[aF] at e;obtain rfl:=Option.some.inj e;have LO:=of_decide_eq_true hc;obtain⟨⟨c0,c1,c2,c3,c4,c5,c6⟩,c7⟩:=LO;have Py:=HD hq;have zG:=hlt _ _ hb;have hlN:=hlt _ _ hlb;have hle:Nat.ble 26 T.length=true:=Nat.ble_eq_true_of_le c7;have hmr:=@cZ i ((q1-q0)+(q5-q2)+q9-q7);have Sh:(q1-q0)+(q5-q2)+q9-q7<1→bh i ((q1-q0)+(q5-q2)+q9-q7)=0:=fun c=>if_pos c;have ZO:=@UR i ((q1-q0)+(q5-q2)+q9-q7) qJ;clear hm e hR hlt hc hq c7;unfold Jg;generalize bh i ((q1-q0)+(q5-q2)+q9-q7)=x at*;obtain⟨m1,m2⟩:=hmr;have m3:x≤200000:=by
      by_cases c:0<(q1-q0)+(q5-q2)+q9-q7
      ·have:=m2 c;omega
      ·have:=Sh qJ;omega
     clear m2 Sh;by_cases d1:x<q1-q0
     ·rw[if_pos d1];refine ay (N:=63) func85 rfl rfl fun z hP hO hro hN hQ=>?_
      repeat' first|simp(disch:=try exact yj) only[go_sem, *] | (apply xs<;>intro _)<;>try omega | ((with_reducible refine b8 2 ?_);refine dw 63 2 acW (by first | (simp only[go_sem, *];done)|rfl) (by kernel_rfl) (by kernel_rfl) ?_)
      all_goals exact fun i hi=>by simp(disch:=omega) only[az]
     ·rw[if_neg d1];by_cases d2:x<(q1-q0)+(q5-q2)
      ·rw[if_pos d2];refine ay (N:=63) func85 rfl rfl fun z hP hO hro hN hQ=>?_
       repeat' first|simp(disch:=try exact yj) only[go_sem, *] | (apply xs<;>intro _)<;>try omega | ((with_reducible refine b8 2 ?_);refine dw 63 2 acW (by first | (simp only[go_sem, *];done)|rfl) (by kernel_rfl) (by kernel_rfl) ?_)
       all_goals exact fun i hi=>by simp(disch:=omega) only[az]
      ·rw[if_neg d2];refine ay (N:=63) func85 rfl rfl fun z hP hO hro hN hQ=>?_
       repeat' first|simp(disch:=try exact yj) only[go_sem, *] | (apply xs<;>intro _)<;>try omega | ((with_reducible refine b8 2 ?_);refine dw 63 2 acW (by first | (simp only[go_sem, *];done)|rfl) (by kernel_rfl) (by kernel_rfl) ?_)
       all_goals exact fun i hi=>by simp(disch:=omega) only[az]
    ·simp[AP.look] at e
   ·simp[AP.look] at e
  ·simp at hm
end Go.Proofs.YtofmbmclopgldaaGreat
