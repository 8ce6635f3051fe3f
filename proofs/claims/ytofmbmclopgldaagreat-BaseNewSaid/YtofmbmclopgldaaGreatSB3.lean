/-
  A part of the proof: contracts of inner functions.
-/
import Derived.Test.YtofmbmclopgldaaGreatT9S5
import Derived.Test.YtofmbmclopgldaaGreatAmV4
import Derived.Test.YtofmbmclopgldaaGreatT9S2
set_option linter.unusedVariables false
set_option linter.unusedSimpArgs false
namespace Go.Proofs.YtofmbmclopgldaaGreat
open Go.Am
def kO:List Value→Option (List (Int×Int×Int))
 | []=>some []
 | .int .u8 a :: .int .i64 b :: .int .i64 c::r=>(kO r).map ((a,b,c)::·)
 | _=>none
theorem Br (L:List Value):∀ (W:List (Int×Int×Int)),kO L=some W→L=iq W:=by
 induction L using kO.induct with
 |case1=>intro W h;simp only[kO,Option.some.injEq] at h;subst h;rfl
 |case2 a b c r ih=>
  intro W h
  simp only[kO,Option.map_eq_some_iff] at h
  obtain⟨V,hV,rfl⟩:=h
  rw[ih V hV];rfl
 |case3 L h1 h2=>
  intro W h
  rw[kO] at h
  ·simp at h
  ·exact h1
  ·exact h2
noncomputable def MH:Value→AP (List (Int×Int×Int))
 | .pointer (some ⟨lb,0,none⟩)=>AP.row lb fun (S:List Value) _=>match (S[27]? : Option Value) with
  |some (.slice (some ⟨wb,0,none⟩) n _)=>AP.row wb fun (L:List Value) _=>match kO L with
   |some W=>cond (Nat.beq n W.length&&Nat.ble n 100000&&Nat.beq S.length 28) (.pure W) (.fail "")
   |none => .fail ""
  | _ => .fail ""
 | _ => .fail ""
theorem m_ (v:Value):Reads (MH v):=by
 unfold MH
 split
 ·refine cQ fun S ro=>?_
  split
  ·refine cQ fun L ro=>?_
   split
   ·exact .cond (.pure _) (.fail _)
   ·exact .fail _
  ·exact .fail _
 ·exact .fail _
theorem HG {v:Value} {h:PT ak} {W:List (Int×Int×Int)} (e:(MH v).look h=some W):∃ lb ro S wb c Ik,v = .pointer (some ⟨lb,0,none⟩)∧h.get lb=some (.cells (PT.ofList .leaf 0 S) ro)∧S[27]? = some (.slice (some ⟨wb,0,none⟩) W.length c)∧
  h.get wb=some (.cells (PT.ofList .leaf 0 (iq W)) Ik)∧W.length≤100000∧S.length=28:=by
 unfold MH at e
 split at e
 ·rename_i lb
  obtain⟨S,ro,hb,e⟩:=bV e
  split at e
  ·rename_i wb n c qI
   obtain⟨L,Ik,hw,e⟩:=bV e
   split at e
   ·rename_i W' hL
    obtain⟨hc,e⟩:=eR e
    rw[aC] at e
    obtain rfl:=Option.some.inj e
    simp only[Bool.and_eq_true] at hc
    have h1:=Nat.eq_of_beq_eq_true hc.1.1
    subst h1
    rw[Br _ _ hL] at hw
    exact⟨lb,ro,S,wb,c,Ik,rfl,hb,qI,hw,Nat.le_of_ble_eq_true hc.1.2,Nat.eq_of_beq_eq_true hc.2⟩
   ·simp[AP.look] at e
  ·simp[AP.look] at e
 ·simp[AP.look] at e
def HI:List (Int×Int×Int)→Int×Int×Int→Int→Option Int
 | [],_,_=>none
 |y::ys,x,b=>if y=x then some b else HI ys x (b+1)
def fI (W:List (Int×Int×Int)) (x:Int×Int×Int):Int:=(HI W x 0).getD 0
def fE (W:List (Int×Int×Int)) (x:Int×Int×Int):Int:=if (HI W x 0).isSome then 0 else 3
def jh (W:List (Int×Int×Int)) (x:Int×Int×Int):Value := .tuple ⟨[.int .i64 (fI W x),.int .i64 (fE W x)]⟩
theorem Bt {W:List (Int×Int×Int)} {x:Int×Int×Int} {i:Int} (h:HI W x 0=some i):jh W x = .tuple ⟨[.int .i64 i,.int .i64 0]⟩:=by unfold jh fI fE;rw[h];rfl
theorem Bu {W:List (Int×Int×Int)} {x:Int×Int×Int} (h:HI W x 0=none):jh W x = .tuple ⟨[.int .i64 0,.int .i64 3]⟩:=by unfold jh fI fE;rw[h];rfl
def HJ (W:List (Int×Int×Int)) (t w:Int):Value:=if w<0∨4<w then .tuple ⟨[.int .i64 0,.int .i64 3]⟩ else jh W (9,t,w)
def Pt (W:List (Int×Int×Int)) (r lv:Int):Value:=if (lv<0∨6≤lv)∨r=0 then .tuple ⟨[.int .i64 0,.int .i64 3]⟩ else if 0<r then jh W (9,r,5+lv) else jh W (8,IntKind.i64.wrap (-1-r),1+lv)
theorem vl:∀ (W:List (Int×Int×Int)) (i:Nat),(iq W).drop (i*3)=iq (W.drop i)
 |W,0=>by simp
 | [],i+1=>by simp[iq]
 |y::ys,i+1=>by
  have:(i+1)*3=i*3+3:=by omega
  rw[this]
  simp only[List.drop_succ_cons]
  rw[←vl ys i]
  simp[iq,Pk]
theorem Pu:Tryz.prog.eqGuardType Tryz.prog.depth 101=false:=by kernel_rfl
def HK (x y:Int×Int×Int):AP Bool:=cond (x.1==y.1) (cond (x.2.1==y.2.1) (cond (x.2.2==y.2.2) (.pure true) (.pure false)) (.pure false)) (.pure false)
theorem KS (x y:Int×Int×Int):bN Tryz.prog 12 101 (.agg ⟨Pk x⟩) (.agg ⟨Pk y⟩)=HK x y:=by kernel_rfl
theorem HL (x y:Int×Int×Int):HK x y = .pure (decide (x=y)):=by
 obtain⟨a,b,c⟩:=x
 obtain⟨a',b',c'⟩:=y
 have q:∀ x y:Int,(x==y)=decide (x=y):=fun x y=>rfl
 unfold HK
 by_cases h1:a=a'<;>by_cases h2:b=b'<;>by_cases h3:c=c'<;>simp[q,h1,h2,h3]
theorem eqP (a b c a' b' c':Int) (cx cy:Bool):cY Tryz.prog .eql 101 cx cy (.agg ⟨[.int .u8 a,.int .i64 b,.int .i64 c]⟩) (.agg ⟨[.int .u8 a',.int .i64 b',.int .i64 c']⟩) = .pure (.value (.bool (decide ((a,b,c)=(a',b',c'))))):=by
 have h:=KS (a,b,c) (a',b',c')
 simp only[Pk] at h
 simp only[cY,dR,bR,Pu,Bool.not_false,cond_true,h,HL,AP.bind]
theorem HM {W:List (Int×Int×Int)} {i:Nat} (hi:i<W.length) (x:Int×Int×Int) (b:Int):HI (W.drop i) x b=if W[i]=x then some b else HI (W.drop (i+1)) x (b+1):=by
 rw[List.drop_eq_getElem_cons hi,HI]
theorem mg (W:List (Int×Int×Int)) (x:Int×Int×Int):Plain (jh W x) := .tuple _ (by simp;exact⟨.int _ _,.int _ _⟩)
theorem tR (a b:Int):Plain (.tuple ⟨[.int .i64 a,.int .i64 b]⟩) := .tuple _ (by simp;exact⟨.int _ _,.int _ _⟩)
noncomputable def gD:List Value→Option (AP Value)
 | [.pointer (some p),.agg ⟨[.int .u8 k,.int .i64 x,.int .i64 y]⟩]=>some ((MH (.pointer (some p))).bind fun W => .pure (jh W (k,x,y)))
 | _=>none
set_option maxRecDepth 100000 in
set_option maxHeartbeats 4000000 in
theorem zf:bf Tryz.prog 169 gD:=by
 refine bp (aN .nil) bA ?_ ?_ ?_
 ·intro args m hm
  unfold gD at hm
  split at hm
  ·obtain rfl:=Option.some.inj hm;exact(m_ _).bind fun l => .pure _
  ·simp at hm
 ·intro args m h v hm e
  unfold gD at hm
  split at hm
  ·obtain rfl:=Option.some.inj hm
   obtain⟨l,hl,e⟩:=aG e
   rw[aC] at e;obtain rfl:=Option.some.inj e
   exact mg _ _
  ·simp at hm
 ·intro args m h N v hm hR hlt e
  unfold gD at hm
  split at hm
  ·rename_i p k x y
   obtain rfl:=Option.some.inj hm
   obtain⟨W,hl,e⟩:=aG e
   rw[aC] at e;obtain rfl:=Option.some.inj e
   obtain⟨lb,ro,S,wb,c,Ik,hp,hb,qI,hw,vk,IZ⟩:=HG hl
   cases hp
   have wQ:=hlt _ _ hb
   have hwN:=hlt _ _ hw
   clear hm hl hlt hR e
   refine ay (N:=28) Tryz.func169 rfl rfl fun z hP hO hro hN hQ=>?_
   repeat' first |simp(maxSteps:=2000000) (disch:=first |omega |assumption) only[go_sem, *] | (apply xs<;>intro _)<;>try omega | ((with_reducible refine ep 6 ?_);refine dw 28 6 Bk (by first | (simp only[go_sem, *];done) |rfl) (by kernel_rfl) (by kernel_rfl) ?_)
   refine bY (fun t m h' n'=>∃ i:Nat,i≤W.length∧t=W.length-i∧m.n=28∧m.eS=[]∧m.get 0 = .pointer (some ⟨lb,0,none⟩)∧m.get 3 = .pointer (some ⟨N,0,none⟩)∧m.get 6 = .int .i64 i∧n'=N+1∧(∀ i,i<N→h'.get i=h.get i)∧h'.get N=row [.int .u8 k,.int .i64 x,.int .i64 y]∧HI W (k,x,y) 0=HI (W.drop i) (k,x,y) i) W.length ?_ ?_
   ·refine⟨0,by omega,by omega,?_⟩
    simp(maxSteps:=2000000) (disch:=first |omega |assumption) only[go_sem, *]
    exact fun i hi=>by simp(disch:=omega) only[aE]
   ·rintro t m h' n' ih ⟨i,hi,rfl,m1,m2,m3,m4,m5,rfl,q1,q2,q3⟩
    have hb':=(q1 _ wQ).trans hb
    have hw':=(q1 _ hwN).trans hw
    rcases Nat.lt_or_ge i W.length with hlt |hge
    ·have e7:(i:Int)<W.length:=by omega
     rw[HM hlt] at q3
     obtain⟨⟨k',x',y'⟩,hwi⟩:∃ w,W[i]=w:=⟨_,rfl⟩
     have hrow:((iq W).drop (i*3)).take 3=[.int .u8 k',.int .i64 x',.int .i64 y']:=by
      rw[vl,List.drop_eq_getElem_cons hlt,hwi];simp[iq,Pk]
     have Lz:(iq W).length=W.length*3:=qL W
     rw[hwi] at q3
     by_cases he:(k',x',y')=(k,x,y)
     ·rw[if_pos he] at q3
      rw[Bt q3] at hQ
      clear hwi q3
      repeat' first |simp(maxSteps:=2000000) (disch:=first |omega |assumption) only[go_sem, *,eqP] | (apply xs<;>intro _)<;>try omega | ((with_reducible refine ep 6 ?_);refine dw 28 6 Bk (by first | (simp only[go_sem, *];done) |rfl) (by kernel_rfl) (by kernel_rfl) ?_)
      all_goals exact q1
     ·rw[if_neg he] at q3
      clear hwi
      repeat' first |simp(maxSteps:=2000000) (disch:=first |omega |assumption) only[go_sem, *,eqP] | (apply xs<;>intro _)<;>try omega | ((with_reducible refine ep 6 ?_);refine dw 28 6 Bk (by first | (simp only[go_sem, *];done) |rfl) (by kernel_rfl) (by kernel_rfl) ?_)
      refine ih (W.length-(i+1)) _ _ _ (by omega) ⟨i+1,by omega,rfl,?_⟩
      have KT:((i+1:Nat):Int)=(i:Int)+1:=by omega
      rw[KT]
      clear ih
      simp(maxSteps:=2000000) (disch:=first |omega |assumption) only[go_sem, *]
      all_goals exact q1
    ·have e7: ¬ (i:Int)<W.length:=by omega
     rw[List.drop_eq_nil_of_le hge,HI] at q3
     rw[Bu q3] at hQ
     clear q3
     repeat' first |simp(maxSteps:=2000000) (disch:=first |omega |assumption) only[go_sem, *] | (apply xs<;>intro _)<;>try omega
     all_goals exact q1
  ·simp at hm
noncomputable abbrev OrF:Over:=eN [(169,gD)]
theorem MI:cr Tryz.prog OrF:=aN (.cons zf .nil)
noncomputable def ji:List Value→Option (AP Value)
 | [.pointer (some p),.int .i64 t,.int .i64 w]=>some ((MH (.pointer (some p))).bind fun W => .pure (HJ W t w))
 | _=>none
noncomputable def mA:List Value→Option (AP Value)
 | [.pointer (some p),.int .i64 r,.int .i64 lv]=>some ((MH (.pointer (some p))).bind fun W => .pure (Pt W r lv))
 | _=>none
set_option maxRecDepth 100000 in
set_option maxHeartbeats 4000000 in
theorem zg:bf Tryz.prog 93 ji:=by
 refine bp MI bA ?_ ?_ ?_
 ·intro args m hm
  unfold ji at hm
  split at hm
  ·obtain rfl:=Option.some.inj hm;exact(m_ _).bind fun l => .pure _
  ·simp at hm
 ·intro args m h v hm e
  unfold ji at hm
  split at hm
  ·obtain rfl:=Option.some.inj hm
   obtain⟨l,hl,e⟩:=aG e
   rw[aC] at e;obtain rfl:=Option.some.inj e
   unfold HJ;split
   ·exact tR _ _
   ·exact mg _ _
  ·simp at hm
 ·intro args m h N v hm hR hlt e
  unfold ji at hm
  split at hm
  ·rename_i p t w
   obtain rfl:=Option.some.inj hm
   obtain⟨W,hl,e⟩:=aG e
   rw[aC] at e;obtain rfl:=Option.some.inj e
   have hrl:=fun h' hk z f d ops r K m n=>@cE _ _ _ _ h' hl z f d ops r K m n hk
   have Ei:=bL.of_lt hlt
   clear hm e hR hlt
   unfold HJ
   refine ay (N:=25) Tryz.func93 rfl rfl fun z hP hO hro hN hQ=>?_
   by_cases g1:w<0
   ·rw[if_pos (.inl g1)] at hQ
    repeat' first |simp(maxSteps:=2000000) (disch:=first |omega | (repeat first |assumption |exact Kept.refl _ |refine Kept.set' (by assumption) ?_ ?_ |refine Kept.set (by assumption) ?_ ?_ |omega)) only[go_sem, *] | (apply xs<;>intro _)<;>try omega
    all_goals exact fun i hi=>by simp(disch:=omega) only[aE]
   ·by_cases g2:4<w
    ·rw[if_pos (.inr g2)] at hQ
     repeat' first |simp(maxSteps:=2000000) (disch:=first |omega | (repeat first |assumption |exact Kept.refl _ |refine Kept.set' (by assumption) ?_ ?_ |refine Kept.set (by assumption) ?_ ?_ |omega)) only[go_sem, *] | (apply xs<;>intro _)<;>try omega
     all_goals exact fun i hi=>by simp(disch:=omega) only[aE]
    ·rw[if_neg (by omega)] at hQ
     unfold jh at hQ
     repeat' first |simp(maxSteps:=2000000) (disch:=first |omega | (repeat first |assumption |exact Kept.refl _ |refine Kept.set' (by assumption) ?_ ?_ |refine Kept.set (by assumption) ?_ ?_ |omega)) only[go_sem, *,gD,jh] | (apply xs<;>intro _)<;>try omega
     all_goals exact fun i hi=>by simp(disch:=omega) only[aE]
  ·simp at hm
set_option maxRecDepth 100000 in
set_option maxHeartbeats 4000000 in
theorem HN:bf Tryz.prog 89 mA:=by
 refine bp MI bA ?_ ?_ ?_
 ·intro args m hm
  unfold mA at hm
  split at hm
  ·obtain rfl:=Option.some.inj hm;exact(m_ _).bind fun l => .pure _
  ·simp at hm
 ·intro args m h v hm e
  unfold mA at hm
  split at hm
  ·obtain rfl:=Option.some.inj hm
   obtain⟨l,hl,e⟩:=aG e
   rw[aC] at e;obtain rfl:=Option.some.inj e
   unfold Pt;split
   ·exact tR _ _
   ·split<;>exact mg _ _
  ·simp at hm
 ·intro args m h N v hm hR hlt e
  unfold mA at hm
  split at hm
  ·rename_i p r lv
   obtain rfl:=Option.some.inj hm
   obtain⟨W,hl,e⟩:=aG e
   rw[aC] at e;obtain rfl:=Option.some.inj e
   have hrl:=fun h' hk z f d ops r K m n=>@cE _ _ _ _ h' hl z f d ops r K m n hk
   have Ei:=bL.of_lt hlt
   clear hm e hR hlt
   unfold Pt
   refine ay (N:=41) Tryz.func89 rfl rfl fun z hP hO hro hN hQ=>?_
   by_cases g1:lv<0
   ·rw[if_pos (.inl (.inl g1))] at hQ
    repeat' first |simp(maxSteps:=2000000) (disch:=first |omega | (repeat first |assumption |exact Kept.refl _ |refine Kept.set' (by assumption) ?_ ?_ |refine Kept.set (by assumption) ?_ ?_ |omega)) only[go_sem, *] | (apply xs<;>intro _)<;>try omega
    all_goals exact fun i hi=>by simp(disch:=omega) only[aE]
   ·by_cases g2:6≤lv
    ·rw[if_pos (.inl (.inr g2))] at hQ
     repeat' first |simp(maxSteps:=2000000) (disch:=first |omega | (repeat first |assumption |exact Kept.refl _ |refine Kept.set' (by assumption) ?_ ?_ |refine Kept.set (by assumption) ?_ ?_ |omega)) only[go_sem, *] | (apply xs<;>intro _)<;>try omega
     all_goals exact fun i hi=>by simp(disch:=omega) only[aE]
    ·by_cases g3:r=0
     ·rw[if_pos (.inr g3)] at hQ
      repeat' first |simp(maxSteps:=2000000) (disch:=first |omega | (repeat first |assumption |exact Kept.refl _ |refine Kept.set' (by assumption) ?_ ?_ |refine Kept.set (by assumption) ?_ ?_ |omega)) only[go_sem, *] | (apply xs<;>intro _)<;>try omega
      all_goals exact fun i hi=>by simp(disch:=omega) only[aE]
     ·rw[if_neg (by omega)] at hQ
      by_cases g4:0<r
      ·rw[if_pos g4] at hQ
       unfold jh at hQ
       repeat' first |simp(maxSteps:=2000000) (disch:=first |omega | (repeat first |assumption |exact Kept.refl _ |refine Kept.set' (by assumption) ?_ ?_ |refine Kept.set (by assumption) ?_ ?_ |omega)) only[go_sem, *,gD,jh] | (apply xs<;>intro _)<;>try omega
       all_goals exact fun i hi=>by simp(disch:=omega) only[aE]
      ·rw[if_neg g4] at hQ
       unfold jh at hQ
       repeat' first |simp(maxSteps:=2000000) (disch:=first |omega | (repeat first |assumption |exact Kept.refl _ |refine Kept.set' (by assumption) ?_ ?_ |refine Kept.set (by assumption) ?_ ?_ |omega)) only[go_sem, *,gD,jh] | (apply xs<;>intro _)<;>try omega
       all_goals exact fun i hi=>by simp(disch:=omega) only[aE]
  ·simp at hm
end Go.Proofs.YtofmbmclopgldaaGreat
set_option linter.unusedVariables false
set_option linter.unusedSimpArgs false
namespace Go.Proofs.YtofmbmclopgldaaGreat
open Go.Am
def qa (key:Int):List Int→Int
 | []=>0
 |c::r=>(if c≤key then 1 else 0)+qa key r
def wX (key:Int) (xs:List Int) (i:Nat):Int:=qa key (xs.take i)
theorem qM (key:Int):∀ (A B:List Int),qa key (A++B)=qa key A+qa key B
 | [],B=>by simp[qa]
 |a::A,B=>by simp only[List.cons_append,qa,qM key A B];omega
theorem D5 {key:Int} {xs:List Int} {i:Nat} (hi:i<xs.length):wX key xs (i+1)=wX key xs i+(if xs.getD i 0≤key then 1 else 0):=by
 unfold wX
 rw[List.take_succ_eq_append_getElem hi,qM]
 simp[qa,List.getD,hi]
theorem tS (key:Int):∀ (xs:List Int),0≤qa key xs∧qa key xs≤xs.length
 | []=>by simp[qa]
 |c::r=>by have:=tS key r;simp only[qa,List.length_cons];split<;>omega
theorem Bv {key:Int} {xs:List Int} {i:Nat} (hi:i≤xs.length):0≤wX key xs i∧wX key xs i≤i:=by
 have:=tS key (xs.take i)
 rw[List.length_take,Nat.min_eq_left hi] at this
 exact this
def MJ (kd dn:Int) (xs:List Int) (key:Int):Int:=if kd=2 then key.tmod dn else if kd=3 then qa key xs else 0
def RF (kd dn:Int) (xs:List Int) (key:Int):Value:=if cI kd dn xs then .tuple ⟨[.int .i64 (MJ kd dn xs key),.int .i64 0]⟩ else .tuple ⟨[.int .i64 0,.int .i64 2]⟩
def ng:List Value→Option (AP Value)
 | [.agg ⟨[.int .u8 kd,.int .i64 dn,s]⟩,.int .u64 key]=>some ((dh .u64 s).bind fun xs=>cond (gC xs&&decide (0≤key∧key<18446744073709551616)) (.pure (RF kd dn xs key)) (.fail ""))
 | _=>none
set_option maxRecDepth 100000 in
set_option maxHeartbeats 4000000 in
theorem Ct:bf Tryz.prog 216 ng:=by
 refine bK Hz bA ?_
 intro args m hm
 unfold ng at hm
 split at hm
 ·rename_i kd dn s key
  simp only[Option.some.injEq] at hm
  subst hm
  refine⟨fun h v=>∃ xs,aW .u64 h s xs∧gC xs=true∧(0≤key∧key<18446744073709551616)∧v=RF kd dn xs key,fun h n v s' hR e=>?_,fun h N v hlt hv=>?_⟩
  ·obtain⟨xs,hx,e⟩:=gx hR e
   obtain⟨hl,e⟩:=cU e
   obtain⟨h1,rfl⟩:=run_pure e
   simp only[Bool.and_eq_true,decide_eq_true_eq] at hl
   refine⟨h1,?_,xs,hx,hl.1,hl.2,rfl⟩
   unfold RF
   split
   ·exact .tuple _ (by simp;exact⟨.int _ _,.int _ _⟩)
   ·exact .tuple _ (by simp;exact⟨.int _ _,.int _ _⟩)
  ·obtain⟨xs,hx,hl,⟨k0,k1⟩,rfl⟩:=hv
   have hrd:=fun h' hk z f d ops r K m n=>@ij _ _ h' _ _ hx z f d ops r K m n hk
   have Ei:=bL.of_lt hlt
   have Vu:=(mX hl).1
   obtain⟨a,cap,rfl,hA⟩:=hx.len
   unfold RF
   by_cases hd:cI kd dn xs=true
   ·have he:cN (cI kd dn xs)=0:=by rw[hd];rfl
    rw[if_pos hd]
    by_cases c2:kd=2
    ·subst c2
     have hd2:=hd
     unfold cI at hd2
     rw[if_neg (by decide),if_pos rfl] at hd2
     simp only[Bool.and_eq_true,decide_eq_true_eq] at hd2
     obtain⟨⟨d1,d2⟩,d3⟩:=hd2
     have hk:MJ 2 dn xs key=key.tmod dn:=rfl
     have r1:=Int.tmod_nonneg dn k0
     have r2:=Int.tmod_lt_of_pos key (show 0<dn by omega)
     have D6: ¬ dn=0:=by omega
     rw[hk]
     clear hd d3 hA hk
     refine ay (N:=43) Tryz.func216 rfl rfl fun z hP hO hro hN hQ=>?_
     repeat' first |simp(maxSteps:=2000000) (disch:=first |omega | (repeat first |assumption |exact Kept.refl _ |refine Kept.set' (by assumption) ?_ ?_ |refine Kept.set (by assumption) ?_ ?_ |omega)) only[go_sem, *,iM] | (apply xs<;>intro _)<;>try omega
     all_goals exact fun i hi=>by simp(disch:=omega) only[aE]
    ·by_cases c3:kd=3
     ·subst c3
      have hk:MJ 3 dn xs key=wX key xs xs.length:=by unfold MJ wX;rw[List.take_length];rfl
      have TT:xs.length<64:=by
       have hd2:=hd
       unfold cI at hd2
       rw[if_neg (by decide),if_neg (by decide),if_pos rfl] at hd2
       simp only[Bool.and_eq_true,decide_eq_true_eq] at hd2
       omega
      rw[hk]
      have hc0:wX key xs 0=0:=rfl
      clear hd
      refine ay (N:=43) Tryz.func216 rfl rfl fun z hP hO hro hN hQ=>?_
      repeat' first |simp(maxSteps:=2000000) (disch:=first |omega | (repeat first |assumption |exact Kept.refl _ |refine Kept.set' (by assumption) ?_ ?_ |refine Kept.set (by assumption) ?_ ?_ |omega)) only[go_sem, *,iM] | (apply xs<;>intro _)<;>try omega
      refine bY (fun t m h' n'=>∃ i:Nat,i≤xs.length∧t=xs.length-i∧m.n=43∧m.eS=[]∧m.get 1 = .int .u64 key∧m.get 2 = .pointer (some ⟨N,0,none⟩)∧m.get 7 = .int .i64 (wX key xs i)∧m.get 8 = .int .i64 i∧n'=N+1∧(∀ i,i<N→h'.get i=h.get i)∧h'.get N=row [.int .u8 3,.int .i64 dn,.slice a xs.length cap]) xs.length ?_ ?_
      ·refine⟨0,by omega,by omega,?_⟩
       rw[hc0]
       simp(maxSteps:=2000000) (disch:=first |omega | (repeat first |assumption |exact Kept.refl _ |refine Kept.set' (by assumption) ?_ ?_ |refine Kept.set (by assumption) ?_ ?_ |omega)) only[go_sem, *]
       exact fun i hi=>by simp(disch:=omega) only[aE]
      ·clear hc0 hrd hx
       rintro t m h' n' ih ⟨i,hi,rfl,m1,m2,m3,m4,m5,m6,rfl,q1,q2⟩
       have hcr:=Bv (key:=key) hi
       rcases Nat.lt_or_ge i xs.length with Hy |hge
       ·obtain⟨bk,off,sp,L,ro,rfl,hb,hL⟩:=hA i Hy
        have wQ:=Ei.lt hb
        have hb':=(q1 _ wQ).trans hb
        have e1:(i:Int)<xs.length:=by omega
        have KT:(i:Int)+1=((i+1:Nat):Int):=by omega
        have hcs:=D5 (key:=key) Hy
        clear hA Ei
        by_cases hle:xs.getD i 0≤key
        ·rw[if_pos hle] at hcs
         repeat' first |simp(maxSteps:=2000000) (disch:=first |omega | (repeat first |assumption |exact Kept.refl _ |refine Kept.set' (by assumption) ?_ ?_ |refine Kept.set (by assumption) ?_ ?_ |omega)) only[go_sem, *] | (apply xs<;>intro _)<;>try omega
         refine ih (xs.length-(i+1)) _ _ _ (by omega) ⟨i+1,by omega,by omega,?_⟩
         rw[hcs]
         clear ih
         simp(maxSteps:=2000000) (disch:=first |omega | (repeat first |assumption |exact Kept.refl _ |refine Kept.set' (by assumption) ?_ ?_ |refine Kept.set (by assumption) ?_ ?_ |omega)) only[go_sem, *]
         all_goals exact q1
        ·rw[if_neg hle,Int.add_zero] at hcs
         repeat' first |simp(maxSteps:=2000000) (disch:=first |omega | (repeat first |assumption |exact Kept.refl _ |refine Kept.set' (by assumption) ?_ ?_ |refine Kept.set (by assumption) ?_ ?_ |omega)) only[go_sem, *] | (apply xs<;>intro _)<;>try omega
         refine ih (xs.length-(i+1)) _ _ _ (by omega) ⟨i+1,by omega,by omega,?_⟩
         rw[hcs]
         clear ih
         simp(maxSteps:=2000000) (disch:=first |omega | (repeat first |assumption |exact Kept.refl _ |refine Kept.set' (by assumption) ?_ ?_ |refine Kept.set (by assumption) ?_ ?_ |omega)) only[go_sem, *]
         all_goals exact q1
       ·have e1: ¬ (i:Int)<xs.length:=by omega
        obtain rfl:i=xs.length:=by omega
        clear hA Ei
        repeat' first |simp(maxSteps:=2000000) (disch:=first |omega | (repeat first |assumption |exact Kept.refl _ |refine Kept.set' (by assumption) ?_ ?_ |refine Kept.set (by assumption) ?_ ?_ |omega)) only[go_sem, *] | (apply xs<;>intro _)<;>try omega
        all_goals exact q1
     ·have hk:MJ kd dn xs key=0:=by unfold MJ;rw[if_neg c2,if_neg c3]
      rw[hk]
      clear hd hA
      refine ay (N:=43) Tryz.func216 rfl rfl fun z hP hO hro hN hQ=>?_
      repeat' first |simp(maxSteps:=2000000) (disch:=first |omega | (repeat first |assumption |exact Kept.refl _ |refine Kept.set' (by assumption) ?_ ?_ |refine Kept.set (by assumption) ?_ ?_ |omega)) only[go_sem, *,iM] | (apply xs<;>intro _)<;>try omega
      all_goals exact fun i hi=>by simp(disch:=omega) only[aE]
   ·have he:cN (cI kd dn xs)=2:=by unfold cN;rw[if_neg hd]
    rw[if_neg hd]
    clear hA hd
    refine ay (N:=43) Tryz.func216 rfl rfl fun z hP hO hro hN hQ=>?_
    repeat' first |simp(maxSteps:=2000000) (disch:=first |omega | (repeat first |assumption |exact Kept.refl _ |refine Kept.set' (by assumption) ?_ ?_ |refine Kept.set (by assumption) ?_ ?_ |omega)) only[go_sem, *,iM] | (apply xs<;>intro _)<;>try omega
    all_goals exact fun i hi=>by simp(disch:=omega) only[aE]
 ·simp at hm
def D7 (i n:Int):Int:=if n<1 then 0 else (i.tmod n+n).tmod n
theorem D8 {i n:Int}:0≤D7 i n∧(0<n→D7 i n<n):=by
 unfold D7
 split
 ·omega
 ·have h1 : -n<i.tmod n:=Int.lt_tmod_of_pos i (by omega)
  exact⟨Int.tmod_nonneg _ (by omega),fun _=>Int.tmod_lt_of_pos _ (by omega)⟩
def Bw:List Value→Option (AP Value)
 | [.int .i64 i,.int .i64 n]=>if n≤100000 then some (.pure (.int .i64 (D7 i n))) else none
 | _=>none
theorem KU {i n:Int} (h:n≤100000):Bw [.int .i64 i,.int .i64 n]=some (.pure (.int .i64 (D7 i n))):=if_pos h
theorem UB:bf Tryz.prog 37 Bw:=by
 refine bp (O:=eN []) (aN .nil) bA ?_ ?_ ?_
 ·intro args m hm
  unfold Bw at hm
  split at hm
  ·split at hm
   ·obtain rfl:=Option.some.inj hm;exact .pure _
   ·simp at hm
  ·simp at hm
 ·intro args m h v hm e
  unfold Bw at hm
  split at hm
  ·split at hm
   ·obtain rfl:=Option.some.inj hm
    rw[aC] at e;obtain rfl:=Option.some.inj e
    exact .int _ _
   ·simp at hm
  ·simp at hm
 ·intro args m h N v hm hR hlt e
  unfold Bw at hm
  split at hm
  ·rename_i i n
   split at hm
   ·rename_i hn
    obtain rfl:=Option.some.inj hm
    rw[aC] at e;obtain rfl:=Option.some.inj e
    clear hlt hR
    unfold D7
    by_cases c:n<1
    ·rw[if_pos c]
     refine ay (N:=14) Tryz.func37 rfl rfl fun z hP hO hro hN hQ=>?_
     repeat' first |simp(maxSteps:=2000000) (disch:=first |omega |assumption) only[go_sem, *] | (apply xs<;>intro _)<;>try omega
     all_goals exact fun _ _=>trivial
    ·rw[if_neg c]
     have a1 : -n<i.tmod n:=Int.lt_tmod_of_pos i (by omega)
     have a2:=Int.tmod_lt_of_pos i (show 0<n by omega)
     have hn0: ¬ n=0:=by omega
     obtain⟨x,hx⟩:∃ x,i.tmod n=x:=⟨_,rfl⟩
     rw[hx] at a1 a2 ⊢
     obtain⟨y,hy⟩:∃ y,(x+n).tmod n=y:=⟨_,rfl⟩
     have b1:0≤y:=by rw[←hy];exact Int.tmod_nonneg _ (by omega)
     have b2:y<n:=by rw[←hy];exact Int.tmod_lt_of_pos _ (by omega)
     rw[hy]
     refine ay (N:=14) Tryz.func37 rfl rfl fun z hP hO hro hN hQ=>?_
     repeat' first |simp(maxSteps:=2000000) (disch:=first |omega |assumption) only[go_sem, *] | (apply xs<;>intro _)<;>try omega
     all_goals exact fun _ _=>trivial
   ·simp at hm
  ·simp at hm
def zh:List Value→Option (AP Value)
 | [.int .u64 w]=>some (.pure (.int .i64 (IntKind.i64.wrap (w.tmod 65536))))
 | _=>none
theorem UC:bf Tryz.prog 217 zh:=by
 refine bp (O:=eN []) (aN .nil) bA ?_ ?_ ?_
 ·intro args m hm
  unfold zh at hm
  split at hm
  ·obtain rfl:=Option.some.inj hm;exact .pure _
  ·simp at hm
 ·intro args m h v hm e
  unfold zh at hm
  split at hm
  ·obtain rfl:=Option.some.inj hm
   rw[aC] at e;obtain rfl:=Option.some.inj e
   exact .int _ _
  ·simp at hm
 ·intro args m h N v hm hR hlt e
  unfold zh at hm
  split at hm
  ·rename_i w
   obtain rfl:=Option.some.inj hm
   rw[aC] at e;obtain rfl:=Option.some.inj e
   clear hlt hR
   refine ay (N:=6) Tryz.func217 rfl rfl fun z hP hO hro hN hQ=>?_
   repeat' first |simp(maxSteps:=2000000) (disch:=first |omega |assumption) only[go_sem, *] | (apply xs<;>intro _)<;>try omega
   first |exact⟨trivial,fun _ _=>trivial⟩ |exact fun _ _=>trivial
  ·simp at hm
noncomputable def D9 (i:Nat) (HO:Value):List Value→Option (AP Value)
 | [.pointer none]=>some (.pure HO)
 | [.pointer (some ⟨b,0,none⟩)]=>some (AP.row b fun (S:List Value) _=>match (S[i]? : Option Value) with |some v => .pure v |none => .fail "")
 | _=>none
theorem kP {O:Over} (hO:cr Tryz.prog O) {f:FuncId} {i:Nat} {HO:Value} (hp:Plain HO) (Hn:∀ h N,cW Tryz.prog O f [.pointer none] h N fun v2 h2 n2=>v2=HO∧∀ i,i<N→h2.get i=h.get i)
  (H:∀ b S ro v h N,h.get b=some (.cells (PT.ofList .leaf 0 S) ro)→S[i]? = some v→cW Tryz.prog O f [.pointer (some ⟨b,0,none⟩)] h N fun v2 h2 n2=>v2=v∧∀ i,i<N→h2.get i=h.get i):bf Tryz.prog f (D9 i HO):=by
 refine sN hO bA ?_
 intro args m hm h n N Old dB v h1 n1 hr hold hid hn
 have hlt:∀ i B,h.get i=some B→i<N:=fun i B hi=>(hid i (hold.id i B hi)).1
 unfold D9 at hm
 split at hm
 ·obtain rfl:=Option.some.inj hm
  simp only[AP.run,aH.ok.injEq,HS.mk.injEq,S0] at hr
  obtain⟨rfl,rfl,rfl,-,-⟩:=hr
  obtain⟨k,v2,h2,n2,e,rfl,hk⟩:=Hn h N
  exact⟨k,_,h2,n2,e,fun i=>i,fun i h1 h2=>by omega,fun i j _ _ _ _ h=>h,hp.ren,fun i B hi => .inl ⟨hi,by rw[hk i (hlt i B hi)];exact hi⟩⟩
 ·rename_i b
  obtain rfl:=Option.some.inj hm
  obtain⟨S,ro,hb,hr⟩:=kE hr
  split at hr
  ·rename_i w hw
   simp only[AP.run,aH.ok.injEq,HS.mk.injEq,S0] at hr
   obtain⟨rfl,rfl,rfl,-,-⟩:=hr
   obtain⟨k,v2,h2,n2,e,rfl,hk⟩:=H b S ro w h N hb hw
   have ho:Old v2:=hold.cells b _ ro i v2 hb (by rw[PT.aI];exact hw)
   exact⟨k,_,h2,n2,e,fun i=>i,fun i h1 h2=>by omega,fun i j _ _ _ _ h=>h,.old _ ho,fun i B hi => .inl ⟨hi,by rw[hk i (hlt i B hi)];exact hi⟩⟩
  ·simp[AP.run] at hr
 ·simp at hm
noncomputable abbrev Cu:=D9 1 (.pointer none)
theorem UD:bf Tryz.prog 19 Cu:=by
 refine kP (O:=eN []) (aN .nil) .eH (fun h N=>?_) (fun b S ro v h N hb hv=>?_)
 ·refine ay (N:=10) Tryz.func19 rfl rfl fun z hP hO hro hN hQ=>?_
  repeat' first |simp(maxSteps:=2000000) (disch:=first |omega |assumption) only[go_sem, *] | (apply xs<;>intro _)<;>try omega
  all_goals first |exact⟨trivial,fun _ _=>trivial⟩ |exact fun _ _=>trivial
 ·refine ay (N:=10) Tryz.func19 rfl rfl fun z hP hO hro hN hQ=>?_
  repeat' first |simp(maxSteps:=2000000) (disch:=first |omega |assumption) only[go_sem, *] | (apply xs<;>intro _)<;>try omega
  all_goals first |exact⟨trivial,fun _ _=>trivial⟩ |exact fun _ _=>trivial
noncomputable abbrev Cv:=D9 0 (.pointer none)
theorem UE:bf Tryz.prog 21 Cv:=by
 refine kP (O:=eN []) (aN .nil) .eH (fun h N=>?_) (fun b S ro v h N hb hv=>?_)
 ·refine ay (N:=10) Tryz.func21 rfl rfl fun z hP hO hro hN hQ=>?_
  repeat' first |simp(maxSteps:=2000000) (disch:=first |omega |assumption) only[go_sem, *] | (apply xs<;>intro _)<;>try omega
  all_goals first |exact⟨trivial,fun _ _=>trivial⟩ |exact fun _ _=>trivial
 ·refine ay (N:=10) Tryz.func21 rfl rfl fun z hP hO hro hN hQ=>?_
  repeat' first |simp(maxSteps:=2000000) (disch:=first |omega |assumption) only[go_sem, *] | (apply xs<;>intro _)<;>try omega
  all_goals first |exact⟨trivial,fun _ _=>trivial⟩ |exact fun _ _=>trivial
noncomputable abbrev Cw:=D9 3 (.pointer none)
theorem UF:bf Tryz.prog 11 Cw:=by
 refine kP (O:=eN []) (aN .nil) .eH (fun h N=>?_) (fun b S ro v h N hb hv=>?_)
 ·refine ay (N:=10) Tryz.func11 rfl rfl fun z hP hO hro hN hQ=>?_
  repeat' first |simp(maxSteps:=2000000) (disch:=first |omega |assumption) only[go_sem, *] | (apply xs<;>intro _)<;>try omega
  all_goals first |exact⟨trivial,fun _ _=>trivial⟩ |exact fun _ _=>trivial
 ·refine ay (N:=10) Tryz.func11 rfl rfl fun z hP hO hro hN hQ=>?_
  repeat' first |simp(maxSteps:=2000000) (disch:=first |omega |assumption) only[go_sem, *] | (apply xs<;>intro _)<;>try omega
  all_goals first |exact⟨trivial,fun _ _=>trivial⟩ |exact fun _ _=>trivial
noncomputable abbrev wY:=D9 2 (.pointer none)
theorem Pv:bf Tryz.prog 15 wY:=by
 refine kP (O:=eN []) (aN .nil) .eH (fun h N=>?_) (fun b S ro v h N hb hv=>?_)
 ·refine ay (N:=10) Tryz.func15 rfl rfl fun z hP hO hro hN hQ=>?_
  repeat' first |simp(maxSteps:=2000000) (disch:=first |omega |assumption) only[go_sem, *] | (apply xs<;>intro _)<;>try omega
  all_goals first |exact⟨trivial,fun _ _=>trivial⟩ |exact fun _ _=>trivial
 ·refine ay (N:=10) Tryz.func15 rfl rfl fun z hP hO hro hN hQ=>?_
  repeat' first |simp(maxSteps:=2000000) (disch:=first |omega |assumption) only[go_sem, *] | (apply xs<;>intro _)<;>try omega
  all_goals first |exact⟨trivial,fun _ _=>trivial⟩ |exact fun _ _=>trivial
noncomputable def tT:List Value→Option (AP Value)
 | [.pointer none]=>some (.pure (.int .i64 0))
 | [.pointer (some ⟨b,0,none⟩)]=>some (AP.row b fun (S:List Value) _=>match (S[1]? : Option Value) with |some (.slice _ k _) => .pure (.int .i64 k) | _ => .fail "")
 | _=>none
theorem UG:bf Tryz.prog 25 tT:=by
 refine bp (O:=eN []) (aN .nil) bA ?_ ?_ ?_
 ·intro args m hm
  unfold tT at hm
  split at hm
  ·obtain rfl:=Option.some.inj hm;exact .pure _
  ·obtain rfl:=Option.some.inj hm
   refine cQ fun S ro=>?_
   split
   ·exact .pure _
   ·exact .fail _
  ·simp at hm
 ·intro args m h v hm e
  unfold tT at hm
  split at hm
  ·obtain rfl:=Option.some.inj hm
   rw[aC] at e;obtain rfl:=Option.some.inj e
   exact .int _ _
  ·obtain rfl:=Option.some.inj hm
   obtain⟨S,ro,hb,e⟩:=bV e
   split at e
   ·rw[aC] at e;obtain rfl:=Option.some.inj e
    exact .int _ _
   ·simp[AP.look] at e
  ·simp at hm
 ·intro args m h N v hm hR hlt e
  unfold tT at hm
  split at hm
  ·obtain rfl:=Option.some.inj hm
   rw[aC] at e;obtain rfl:=Option.some.inj e
   clear hlt hR
   refine ay (N:=10) Tryz.func25 rfl rfl fun z hP hO hro hN hQ=>?_
   repeat' first |simp(maxSteps:=2000000) (disch:=first |omega |assumption) only[go_sem, *] | (apply xs<;>intro _)<;>try omega
   all_goals first |exact⟨trivial,fun _ _=>trivial⟩ |exact fun _ _=>trivial
  ·obtain rfl:=Option.some.inj hm
   obtain⟨S,ro,hb,e⟩:=bV e
   split at e
   ·rename_i a k c h1
    rw[aC] at e;obtain rfl:=Option.some.inj e
    clear hlt hR e
    refine ay (N:=10) Tryz.func25 rfl rfl fun z hP hO hro hN hQ=>?_
    repeat' first |simp(maxSteps:=2000000) (disch:=first |omega |assumption) only[go_sem, *] | (apply xs<;>intro _)<;>try omega
    all_goals first |exact⟨trivial,fun _ _=>trivial⟩ |exact fun _ _=>trivial
   ·simp[AP.look] at e
  ·simp at hm
@[go_sem] theorem UH {b:Nat}:Cu [.pointer (some ⟨b,0,none⟩)]=some (AP.row b fun (S:List Value) _=>match (S[1]? : Option Value) with |some v => .pure v |none => .fail ""):=rfl
@[go_sem] theorem RG:Cu [.pointer none]=some (.pure (.pointer none)):=rfl
@[go_sem] theorem UI {b:Nat}:Cv [.pointer (some ⟨b,0,none⟩)]=some (AP.row b fun (S:List Value) _=>match (S[0]? : Option Value) with |some v => .pure v |none => .fail ""):=rfl
@[go_sem] theorem RH:Cv [.pointer none]=some (.pure (.pointer none)):=rfl
@[go_sem] theorem UJ {b:Nat}:Cw [.pointer (some ⟨b,0,none⟩)]=some (AP.row b fun (S:List Value) _=>match (S[3]? : Option Value) with |some v => .pure v |none => .fail ""):=rfl
@[go_sem] theorem RI:Cw [.pointer none]=some (.pure (.pointer none)):=rfl
@[go_sem] theorem RJ {b:Nat}:wY [.pointer (some ⟨b,0,none⟩)]=some (AP.row b fun (S:List Value) _=>match (S[2]? : Option Value) with |some v => .pure v |none => .fail ""):=rfl
@[go_sem] theorem Pw:wY [.pointer none]=some (.pure (.pointer none)):=rfl
@[go_sem] theorem UK {b:Nat}:tT [.pointer (some ⟨b,0,none⟩)]=some (AP.row b fun (S:List Value) _=>match (S[1]? : Option Value) with |some (.slice _ k _) => .pure (.int .i64 k) | _ => .fail ""):=rfl
@[go_sem] theorem RK:tT [.pointer none]=some (.pure (.int .i64 0)):=rfl
def zi:List Value→Option (AP Value)
 | [.int .u64 w]=>if 0≤w∧w<18446744073709551616 then some (.pure (.int .u64 (w.tdiv 65536))) else none
 | _=>none
theorem UL:bf Tryz.prog 219 zi:=by
 refine bp (O:=eN []) (aN .nil) bA ?_ ?_ ?_
 ·intro args m hm
  unfold zi at hm
  split at hm
  ·split at hm
   ·obtain rfl:=Option.some.inj hm;exact .pure _
   ·simp at hm
  ·simp at hm
 ·intro args m h v hm e
  unfold zi at hm
  split at hm
  ·split at hm
   ·obtain rfl:=Option.some.inj hm
    rw[aC] at e;obtain rfl:=Option.some.inj e
    exact .int _ _
   ·simp at hm
  ·simp at hm
 ·intro args m h N v hm hR hlt e
  unfold zi at hm
  split at hm
  ·rename_i w
   split at hm
   ·rename_i hc
    obtain rfl:=Option.some.inj hm
    rw[aC] at e;obtain rfl:=Option.some.inj e
    clear hlt hR
    have q1:0≤w.tdiv 65536∧w.tdiv 65536<18446744073709551616:=by rw[Int.tdiv_eq_ediv_of_nonneg hc.1];omega
    obtain⟨q1,q2⟩:=q1
    refine ay (N:=5) Tryz.func219 rfl rfl fun z hP hO hro hN hQ=>?_
    repeat' first |simp(maxSteps:=2000000) (disch:=first |omega |assumption) only[go_sem, *] | (apply xs<;>intro _)<;>try omega
    all_goals first |exact⟨trivial,fun _ _=>trivial⟩ |exact fun _ _=>trivial
   ·simp at hm
  ·simp at hm
def zj:List Value→Option (AP Value)
 | [.int .u64 g,.int .i64 t]=>if (0≤g∧g≤1099511627775)∧0≤t∧t≤1024 then some (.pure (.tuple ⟨[.int .u64 (t+65536*g),.int .i64 0]⟩)) else none
 | _=>none
theorem UM:bf Tryz.prog 218 zj:=by
 refine bp (O:=eN []) (aN .nil) bA ?_ ?_ ?_
 ·intro args m hm
  unfold zj at hm
  split at hm
  ·split at hm
   ·obtain rfl:=Option.some.inj hm;exact .pure _
   ·simp at hm
  ·simp at hm
 ·intro args m h v hm e
  unfold zj at hm
  split at hm
  ·split at hm
   ·obtain rfl:=Option.some.inj hm
    rw[aC] at e;obtain rfl:=Option.some.inj e
    exact .tuple _ (by simp;exact⟨.int _ _,.int _ _⟩)
   ·simp at hm
  ·simp at hm
 ·intro args m h N v hm hR hlt e
  unfold zj at hm
  split at hm
  ·rename_i g t
   split at hm
   ·rename_i hc
    obtain rfl:=Option.some.inj hm
    rw[aC] at e;obtain rfl:=Option.some.inj e
    clear hlt hR
    obtain⟨⟨c1,c2⟩,c3,c4⟩:=hc
    refine ay (N:=21) Tryz.func218 rfl rfl fun z hP hO hro hN hQ=>?_
    repeat' first |simp(maxSteps:=2000000) (disch:=first |omega |assumption) only[go_sem, *] | (apply xs<;>intro _)<;>try omega
    all_goals first |exact⟨trivial,fun _ _=>trivial⟩ |exact fun _ _=>trivial
   ·simp at hm
  ·simp at hm
end Go.Proofs.YtofmbmclopgldaaGreat
set_option linter.unusedVariables false
set_option linter.unusedSimpArgs false
namespace Go.Proofs.YtofmbmclopgldaaGreat
open Go.Am
theorem HP {T:List Value} {a b c:Value} (h4:T[4]? = some a) (h5:T[5]? = some b) (h6:T[6]? = some c):List.take 3 (List.drop 4 T)=[a,b,c]∧Nat.ble 7 T.length=true:=by
 have hl:6<T.length:=(List.getElem?_eq_some_iff.1 h6).1
 refine⟨?_,Nat.ble_eq_true_of_le hl⟩
 rw[List.drop_eq_getElem_cons (by omega),List.drop_eq_getElem_cons (by omega),List.drop_eq_getElem_cons (by omega)]
 rw[(List.getElem?_eq_some_iff.1 h4).2,(List.getElem?_eq_some_iff.1 h5).2,(List.getElem?_eq_some_iff.1 h6).2]
 rfl
noncomputable def vm:Value→AP (Int×Int×List Int)
 | .pointer (some ⟨b,0,none⟩)=>AP.row b fun (S:List Value) _=>match (S[0]? : Option Value) with
  |some (.pointer (some ⟨lb,0,none⟩))=>AP.row lb fun (T:List Value) _=>match (T[4]? : Option Value),(T[5]? : Option Value),(T[6]? : Option Value) with
   |some (.int .u8 kd),some (.int .i64 dn),some s=>(dh .u64 s).bind fun xs=>cond (gC xs) (.pure (kd,dn,xs)) (.fail "")
   | _,_,_ => .fail ""
  | _ => .fail ""
 | _ => .fail ""
theorem qN (v:Value):Reads (vm v):=by
 unfold vm
 split
 ·refine cQ fun S ro=>?_
  split
  ·refine cQ fun T ro=>?_
   split
   ·exact kC.bind fun xs => .cond (.pure _) (.fail _)
   ·exact .fail _
  ·exact .fail _
 ·exact .fail _
theorem tU {v:Value} {h:PT ak} {x:Int×Int×List Int} (hR:Am.Rows h) (e:(vm v).look h=some x):∃ b lb S ro T Cr s,v = .pointer (some ⟨b,0,none⟩)∧h.get b=some (.cells (PT.ofList .leaf 0 S) ro)∧S[0]? = some (.pointer (some ⟨lb,0,none⟩))∧h.get lb=some (.cells (PT.ofList .leaf 0 T) Cr)∧
  T[4]? = some (.int .u8 x.1)∧T[5]? = some (.int .i64 x.2.1)∧T[6]? = some s∧aW .u64 h s x.2.2∧gC x.2.2=true:=by
 unfold vm at e
 split at e
 ·rename_i b
  obtain⟨S,ro,hb,e⟩:=bV e
  split at e
  ·rename_i lb h0
   obtain⟨T,Cr,hl,e⟩:=bV e
   split at e
   ·rename_i kd dn s h4 h5 h6
    obtain⟨xs,e1,e⟩:=aG e
    obtain⟨hc,e⟩:=eR e
    rw[aC] at e
    obtain rfl:=Option.some.inj e
    exact⟨b,lb,S,ro,T,Cr,s,rfl,hb,h0,hl,h4,h5,h6,lU e1 hR,hc⟩
   ·simp[AP.look] at e
  ·simp[AP.look] at e
 ·simp[AP.look] at e
noncomputable def oU:List Value→Option (AP Value)
 | [.agg ⟨[_,.pointer (some p)]⟩]=>some ((vm (.pointer (some p))).bind fun x => .pure (.int .i64 (if cI x.1 x.2.1 x.2.2 then a_ x.1 x.2.1 x.2.2 else 0)))
 | _=>none
noncomputable def tV:List Value→Option (AP Value)
 | [.agg ⟨[_,.pointer (some p)]⟩,.int .u64 key]=>some ((vm (.pointer (some p))).bind fun x=>cond (decide (0≤key∧key<18446744073709551616)) (.pure (.int .i64 (if cI x.1 x.2.1 x.2.2 then MJ x.1 x.2.1 x.2.2 key else 0))) (.fail ""))
 | _=>none
noncomputable abbrev Ovk:Over:=eN [(100,gR),(216,ng)]
theorem MK:cr Tryz.prog Ovk:=aN (.cons tM (.cons Ct .nil))
set_option maxRecDepth 100000 in
theorem KW:bf Tryz.prog 38 oU:=by
 refine bp MK bA ?_ ?_ ?_
 ·intro args m hm
  unfold oU at hm
  split at hm
  ·obtain rfl:=Option.some.inj hm;exact(qN _).bind fun _ => .pure _
  ·simp at hm
 ·intro args m h v hm e
  unfold oU at hm
  split at hm
  ·obtain rfl:=Option.some.inj hm
   obtain⟨l,hl,e⟩:=aG e
   rw[aC] at e;obtain rfl:=Option.some.inj e
   exact .int _ _
  ·simp at hm
 ·intro args m h N v hm hR hlt e
  unfold oU at hm
  split at hm
  ·rename_i A p
   obtain rfl:=Option.some.inj hm
   obtain⟨⟨kd,dn,xs⟩,hl,e⟩:=aG e
   rw[aC] at e;obtain rfl:=Option.some.inj e
   obtain⟨b,lb,S,ro,T,Cr,s,hp,hb,h0,hlb,h4,h5,h6,hx,SM⟩:=tU hR hl
   cases hp
   simp only at h4 h5 hx SM ⊢
   obtain⟨t34,tle⟩:=HP h4 h5 h6
   have wQ:=hlt _ _ hb
   have hlN:=hlt _ _ hlb
   have Ei:=bL.of_lt hlt
   have hrd:=fun h' hk z f d ops r K m n=>@ij _ _ h' _ _ hx z f d ops r K m n hk
   clear hm e hR hlt hl
   by_cases hd:cI kd dn xs=true
   ·rw[if_pos hd]
    refine ay (N:=19) Tryz.func38 rfl rfl fun z hP hO hro hN hQ=>?_
    repeat' first |simp(maxSteps:=2000000) (disch:=first |omega | (repeat first |assumption |exact Kept.refl _ |refine Kept.set' (by assumption) ?_ ?_ |refine Kept.set (by assumption) ?_ ?_ |omega)) only[go_sem, *,gR] | (apply xs<;>intro _)<;>try omega
    all_goals exact fun i hi=>by simp(disch:=omega) only[aE]
   ·rw[if_neg hd]
    refine ay (N:=19) Tryz.func38 rfl rfl fun z hP hO hro hN hQ=>?_
    repeat' first |simp(maxSteps:=2000000) (disch:=first |omega | (repeat first |assumption |exact Kept.refl _ |refine Kept.set' (by assumption) ?_ ?_ |refine Kept.set (by assumption) ?_ ?_ |omega)) only[go_sem, *,gR] | (apply xs<;>intro _)<;>try omega
    all_goals exact fun i hi=>by simp(disch:=omega) only[aE]
  ·simp at hm
set_option maxRecDepth 100000 in
theorem Px:bf Tryz.prog 149 tV:=by
 refine bp MK bA ?_ ?_ ?_
 ·intro args m hm
  unfold tV at hm
  split at hm
  ·obtain rfl:=Option.some.inj hm;exact(qN _).bind fun _ => .cond (.pure _) (.fail _)
  ·simp at hm
 ·intro args m h v hm e
  unfold tV at hm
  split at hm
  ·obtain rfl:=Option.some.inj hm
   obtain⟨l,hl,e⟩:=aG e
   obtain⟨hc,e⟩:=eR e
   rw[aC] at e;obtain rfl:=Option.some.inj e
   exact .int _ _
  ·simp at hm
 ·intro args m h N v hm hR hlt e
  unfold tV at hm
  split at hm
  ·rename_i A p key
   obtain rfl:=Option.some.inj hm
   obtain⟨⟨kd,dn,xs⟩,hl,e⟩:=aG e
   obtain⟨hc,e⟩:=eR e
   rw[aC] at e;obtain rfl:=Option.some.inj e
   obtain⟨b,lb,S,ro,T,Cr,s,hp,hb,h0,hlb,h4,h5,h6,hx,SM⟩:=tU hR hl
   cases hp
   simp only at h4 h5 hx SM ⊢
   obtain⟨t34,tle⟩:=HP h4 h5 h6
   have hkk:=of_decide_eq_true hc
   obtain⟨k0,k1⟩:=hkk
   have wQ:=hlt _ _ hb
   have hlN:=hlt _ _ hlb
   have Ei:=bL.of_lt hlt
   have hrd:=fun h' hk z f d ops r K m n=>@ij _ _ h' _ _ hx z f d ops r K m n hk
   have zZ:(gC xs&&decide (0≤key∧key<18446744073709551616))=true:=by rw[SM,hc];rfl
   clear hm e hR hlt hl hc
   by_cases hd:cI kd dn xs=true
   ·have hv:RF kd dn xs key = .tuple ⟨[.int .i64 (MJ kd dn xs key),.int .i64 0]⟩:=if_pos hd
    rw[if_pos hd]
    refine ay (N:=22) Tryz.func149 rfl rfl fun z hP hO hro hN hQ=>?_
    repeat' first |simp(maxSteps:=2000000) (disch:=first |omega | (repeat first |assumption |exact Kept.refl _ |refine Kept.set' (by assumption) ?_ ?_ |refine Kept.set (by assumption) ?_ ?_ |omega)) only[go_sem, *,ng] | (apply xs<;>intro _)<;>try omega
    all_goals exact fun i hi=>by simp(disch:=omega) only[aE]
   ·have hv:RF kd dn xs key = .tuple ⟨[.int .i64 0,.int .i64 2]⟩:=if_neg hd
    rw[if_neg hd]
    refine ay (N:=22) Tryz.func149 rfl rfl fun z hP hO hro hN hQ=>?_
    repeat' first |simp(maxSteps:=2000000) (disch:=first |omega | (repeat first |assumption |exact Kept.refl _ |refine Kept.set' (by assumption) ?_ ?_ |refine Kept.set (by assumption) ?_ ?_ |omega)) only[go_sem, *,ng] | (apply xs<;>intro _)<;>try omega
    all_goals exact fun i hi=>by simp(disch:=omega) only[aE]
  ·simp at hm
end Go.Proofs.YtofmbmclopgldaaGreat
set_option linter.unusedVariables false
set_option linter.unusedSimpArgs false
namespace Go.Proofs.YtofmbmclopgldaaGreat
open Go.Am
def HQ (Wt:List (Int×Int×Int)) (t:Int):Int:=fI Wt (9,t,0)
noncomputable def tW:List Value→Option (AP Value)
 | [.agg ⟨[_,.pointer (some ⟨b,0,none⟩)]⟩,.int .i64 t]=>some (AP.row b fun (S:List Value) _=>match (S[0]? : Option Value),(S[1]? : Option Value) with
  |some (.pointer (some p)),some (.pointer (some ⟨mb,0,none⟩))=>(MH (.pointer (some p))).bind fun Wt=>AP.row mb fun (M:List Value) _=>match (M[0]? : Option Value) with
   |some (.slice (some ⟨wb,0,none⟩) n _)=>AP.row wb fun (L:List Value) _=>match (L[(HQ Wt t).toNat]? : Option Value) with
    |some (.int .u64 x)=>cond (decide (0≤HQ Wt t∧HQ Wt t<n)) (.pure (.int .u64 x)) (.fail "")
    | _ => .fail ""
   | _ => .fail ""
  | _,_ => .fail "")
 | _=>none
noncomputable abbrev Okw:Over:=eN [(93,ji)]
theorem UN:cr Tryz.prog Okw:=aN (.cons zg .nil)
set_option maxRecDepth 100000 in
set_option maxHeartbeats 4000000 in
theorem Py:bf Tryz.prog 150 tW:=by
 refine bp UN bA ?_ ?_ ?_
 ·intro args m hm
  unfold tW at hm
  split at hm
  ·obtain rfl:=Option.some.inj hm
   refine cQ fun S ro=>?_
   split
   ·refine(m_ _).bind fun Wt=>cQ fun M ro=>?_
    split
    ·refine cQ fun L ro=>?_
     split
     ·exact .cond (.pure _) (.fail _)
     ·exact .fail _
    ·exact .fail _
   ·exact .fail _
  ·simp at hm
 ·intro args m h v hm e
  unfold tW at hm
  split at hm
  ·obtain rfl:=Option.some.inj hm
   obtain⟨S,ro,hb,e⟩:=bV e
   split at e
   ·obtain⟨Wt,hl,e⟩:=aG e
    obtain⟨M,Cr,hm2,e⟩:=bV e
    split at e
    ·obtain⟨L,ro3,hw,e⟩:=bV e
     split at e
     ·obtain⟨hc,e⟩:=eR e
      rw[aC] at e;obtain rfl:=Option.some.inj e
      exact .int _ _
     ·simp[AP.look] at e
    ·simp[AP.look] at e
   ·simp[AP.look] at e
  ·simp at hm
 ·intro args m h N v hm hR hlt e
  unfold tW at hm
  split at hm
  ·rename_i A b t
   obtain rfl:=Option.some.inj hm
   obtain⟨S,ro,hb,e⟩:=bV e
   split at e
   ·rename_i p mb h0 h1
    obtain⟨Wt,hl,e⟩:=aG e
    obtain⟨M,Cr,hmb,e⟩:=bV e
    split at e
    ·rename_i wb n c hM
     obtain⟨L,ro3,hw,e⟩:=bV e
     split at e
     ·rename_i x hL
      obtain⟨hc,e⟩:=eR e
      rw[aC] at e;obtain rfl:=Option.some.inj e
      have Jb:=of_decide_eq_true hc
      obtain⟨c1,c2⟩:=Jb
      have wQ:=hlt _ _ hb
      have hmN:=hlt _ _ hmb
      have hwN:=hlt _ _ hw
      have Ei:=bL.of_lt hlt
      have hrl:=fun h' hk z f d ops r K m n=>@cE _ _ _ _ h' hl z f d ops r K m n hk
      have hwr:HJ Wt t 0 = .tuple ⟨[.int .i64 (HQ Wt t),.int .i64 (fE Wt (9,t,0))]⟩:=by unfold HJ;rw[if_neg (by omega)];rfl
      clear hm e hR hlt hl hc
      generalize HQ Wt t=a at*
      obtain⟨i,rfl⟩:=Int.eq_ofNat_of_zero_le c1
      rw[Int.toNat_natCast] at hL
      refine ay (N:=28) Tryz.func150 rfl rfl fun z hP hO hro hN hQ=>?_
      repeat' first |simp(maxSteps:=2000000) (disch:=first |omega | (repeat first |assumption |exact Kept.refl _ |refine Kept.set' (by assumption) ?_ ?_ |refine Kept.set (by assumption) ?_ ?_ |omega)) only[go_sem, *,ji] | (apply xs<;>intro _)<;>try omega
      all_goals exact fun i hi=>by simp(disch:=omega) only[aE]
     ·simp[AP.look] at e
    ·simp[AP.look] at e
   ·simp[AP.look] at e
  ·simp at hm
def ML (q0 q1 q2 q5 q7 q9 i:Int):Int:=if D7 i ((q1-q0)+(q5-q2)+q9-q7)<q1-q0 then q0+D7 i ((q1-q0)+(q5-q2)+q9-q7) else if D7 i ((q1-q0)+(q5-q2)+q9-q7)<(q1-q0)+(q5-q2) then q2+D7 i ((q1-q0)+(q5-q2)+q9-q7)-(q1-q0) else q7+D7 i ((q1-q0)+(q5-q2)+q9-q7)-(q1-q0)-(q5-q2)
noncomputable def oV:List Value→Option (AP Value)
 | [.agg ⟨[_,.pointer (some ⟨b,0,none⟩)]⟩,.int .i64 i]=>some (AP.row b fun (S:List Value) _=>match (S[0]? : Option Value) with
  |some (.pointer (some ⟨lb,0,none⟩))=>AP.row lb fun (T:List Value) _=>match dV .i64 ((T.drop 16).take 10) with
   |some [q0,q1,q2,q3,q4,q5,q6,q7,q8,q9]=>cond (decide ((0≤q0∧q0≤q1∧q1≤q2∧q2≤q5∧q5≤q7∧q7≤q9∧q9≤50000)∧26≤T.length)) (.pure (.int .i64 (ML q0 q1 q2 q5 q7 q9 i))) (.fail "")
   | _ => .fail ""
  | _ => .fail "")
 | _=>none
theorem Bx {T:List Value} {q0 q1 q2 q3 q4 q5 q6 q7 q8 q9:Int} (h:dV .i64 ((T.drop 16).take 10)=some [q0,q1,q2,q3,q4,q5,q6,q7,q8,q9]):List.take 10 (List.drop 16 T)=[.int .i64 q0,.int .i64 q1,.int .i64 q2,.int .i64 q3,.int .i64 q4,.int .i64 q5,.int .i64 q6,.int .i64 q7,.int .i64 q8,.int .i64 q9]:=kB h
set_option maxRecDepth 100000 in
set_option maxHeartbeats 4000000 in
theorem KX:bf Tryz.prog 85 oV:=by
 refine bp (O:=eN [(37,Bw)]) (aN (.cons UB .nil)) bA ?_ ?_ ?_
 ·intro args m hm
  unfold oV at hm
  split at hm
  ·obtain rfl:=Option.some.inj hm
   refine cQ fun S ro=>?_
   split
   ·refine cQ fun T ro=>?_
    split
    ·exact .cond (.pure _) (.fail _)
    ·exact .fail _
   ·exact .fail _
  ·simp at hm
 ·intro args m h v hm e
  unfold oV at hm
  split at hm
  ·obtain rfl:=Option.some.inj hm
   obtain⟨S,ro,hb,e⟩:=bV e
   split at e
   ·obtain⟨T,Cr,hm2,e⟩:=bV e
    split at e
    ·obtain⟨hc,e⟩:=eR e
     rw[aC] at e;obtain rfl:=Option.some.inj e
     exact .int _ _
    ·simp[AP.look] at e
   ·simp[AP.look] at e
  ·simp at hm
 ·intro args m h N v hm hR hlt e
  unfold oV at hm
  split at hm
  ·rename_i A b i
   obtain rfl:=Option.some.inj hm
   obtain⟨S,ro,hb,e⟩:=bV e
   split at e
   ·rename_i lb h0
    obtain⟨T,Cr,hlb,e⟩:=bV e
    split at e
    ·rename_i q0 q1 q2 q3 q4 q5 q6 q7 q8 q9 hq
     obtain⟨hc,e⟩:=eR e
     rw[aC] at e;obtain rfl:=Option.some.inj e
     have Jb:=of_decide_eq_true hc
     obtain⟨⟨c0,c1,c2,c3,c4,c5,c6⟩,c7⟩:=Jb
     have hq2:=Bx hq
     have wQ:=hlt _ _ hb
     have hlN:=hlt _ _ hlb
     have hle:Nat.ble 26 T.length=true:=Nat.ble_eq_true_of_le c7
     have hmr:=@D8 i ((q1-q0)+(q5-q2)+q9-q7)
     have I3:(q1-q0)+(q5-q2)+q9-q7<1→D7 i ((q1-q0)+(q5-q2)+q9-q7)=0:=fun c=>if_pos c
     have ZZ:=@KU i ((q1-q0)+(q5-q2)+q9-q7) (by omega)
     clear hm e hR hlt hc hq c7
     unfold ML
     generalize D7 i ((q1-q0)+(q5-q2)+q9-q7)=x at*
     obtain⟨m1,m2⟩:=hmr
     have m3:x≤200000:=by
      by_cases c:0<(q1-q0)+(q5-q2)+q9-q7
      ·have:=m2 c;omega
      ·have:=I3 (by omega);omega
     clear m2 I3
     by_cases d1:x<q1-q0
     ·rw[if_pos d1]
      refine ay (N:=63) Tryz.func85 rfl rfl fun z hP hO hro hN hQ=>?_
      repeat' first |simp(maxSteps:=2000000) (disch:=first |omega | (repeat first |assumption |exact Kept.refl _ |refine Kept.set' (by assumption) ?_ ?_ |refine Kept.set (by assumption) ?_ ?_ |omega)) only[go_sem, *] | (apply xs<;>intro _)<;>try omega | ((with_reducible refine ep 2 ?_);refine dw 63 2 G_ (by first | (simp only[go_sem, *];done) |rfl) (by kernel_rfl) (by kernel_rfl) ?_)
      all_goals exact fun i hi=>by simp(disch:=omega) only[aE]
     ·rw[if_neg d1]
      by_cases d2:x<(q1-q0)+(q5-q2)
      ·rw[if_pos d2]
       refine ay (N:=63) Tryz.func85 rfl rfl fun z hP hO hro hN hQ=>?_
       repeat' first |simp(maxSteps:=2000000) (disch:=first |omega | (repeat first |assumption |exact Kept.refl _ |refine Kept.set' (by assumption) ?_ ?_ |refine Kept.set (by assumption) ?_ ?_ |omega)) only[go_sem, *] | (apply xs<;>intro _)<;>try omega | ((with_reducible refine ep 2 ?_);refine dw 63 2 G_ (by first | (simp only[go_sem, *];done) |rfl) (by kernel_rfl) (by kernel_rfl) ?_)
       all_goals exact fun i hi=>by simp(disch:=omega) only[aE]
      ·rw[if_neg d2]
       refine ay (N:=63) Tryz.func85 rfl rfl fun z hP hO hro hN hQ=>?_
       repeat' first |simp(maxSteps:=2000000) (disch:=first |omega | (repeat first |assumption |exact Kept.refl _ |refine Kept.set' (by assumption) ?_ ?_ |refine Kept.set (by assumption) ?_ ?_ |omega)) only[go_sem, *] | (apply xs<;>intro _)<;>try omega | ((with_reducible refine ep 2 ?_);refine dw 63 2 G_ (by first | (simp only[go_sem, *];done) |rfl) (by kernel_rfl) (by kernel_rfl) ?_)
       all_goals exact fun i hi=>by simp(disch:=omega) only[aE]
    ·simp[AP.look] at e
   ·simp[AP.look] at e
  ·simp at hm
end Go.Proofs.YtofmbmclopgldaaGreat
