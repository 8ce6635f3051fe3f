/-
  A part of the proof: contracts of inner functions.
-/
import Derived.Test.YtbceiadaihphaaaGreatRY1
set_option linter.unusedVariables false
set_option linter.unusedSimpArgs false
namespace Go.Proofs.YtbceiadaihphaaaGreat
open Go.Am
variable {e:gT} {x:eG e} {rep:e.σ→List Value→(Rl→Nat)→(Rl→Option aj)→Prop}
@[go_sem] theorem MQ {P:Program} {ρ:Operand→Value} {d:Option Tmp} {ty:TypeId} {pos:String} {af:Array Edge} {g:Option (Nat×Bool)} {t:TypeId} {x i v:Operand}:jA P ρ ⟨d,.insert t x i v,ty,pos,af,g⟩=LJ P t (ρ x) (ρ i) (ρ v):=rfl
@[go_sem] theorem Cu {t:TypeId} {a b c:Operand}:(Op.insert t a b c).operands=#[a,b,c]:=rfl
@[go_sem] theorem ajJ {r:Nat} {x:Int} {v:Value}:LJ Tryz.prog 75 (.map (some r)) (.int .u8 x) v = .get r (Gl Tryz.prog r (.int .u8) (.int .u8 x) v):=muI Kk RV
section
variable {P:Program} {r c i j:Nat} {x a b:Int} {v f g:Value}
@[go_sem] theorem afh:Gl P r (.int .u8) (.int .u8 x) v (.map [] c)=HX r true (.int .u8 x) v [] c (some none):=by
 rw[show ([]:List (Value×Value×Nat))=gZ .u8 [] from rfl,qN];rfl
@[go_sem] theorem afi (h1:x≠a):Gl P r (.int .u8) (.int .u8 x) v (.map [(.int .u8 a,f,i)] c)=HX r true (.int .u8 x) v [(.int .u8 a,f,i)] c (some none):=by
 rw[show [(Value.int .u8 a,f,i)]=gZ .u8 [(a,f,i)] from rfl,qN,eV,if_neg h1];rfl
@[go_sem] theorem afj (h1:x≠a) (h2:x≠b):Gl P r (.int .u8) (.int .u8 x) v (.map [(.int .u8 a,f,i),(.int .u8 b,g,j)] c)=HX r true (.int .u8 x) v [(.int .u8 a,f,i),(.int .u8 b,g,j)] c (some none):=by
 rw[show [(Value.int .u8 a,f,i),(Value.int .u8 b,g,j)]=gZ .u8 [(a,f,i),(b,g,j)] from rfl,qN,eV,if_neg h1,eV,if_neg h2];rfl
end
def PV (d:Rl→Nat) (C:Rl→Option aj) (v:Value) (l:List (Nat×Nat)):Prop:=
 (v = .slice none 0 0∧l=[])∨∃ (q:Rl) (cap:Nat) (L:List Value) (ro:Bool),60≤q.1∧v = .slice (some ⟨d q,0,none⟩) l.length cap∧C q=qC L ro∧2*l.length≤L.length∧L.take (l.length*2)=nZ l
structure FF (d:Rl→Nat) (C:Rl→Option aj) (ps:Value) (ops:Ops) (ns:Nat):Prop where
 out:∃ cap vs ro,ps = .slice (some ⟨d (60,0),0,none⟩) ns cap∧C (60,0)=qC vs ro∧ns≤vs.length∧∀ i,i<ns→∃ v,vs[i]? = some v∧PV d C v (ops i)
theorem PV.of {d d':Rl→Nat} {C C':Rl→Option aj} {v:Value} {l:List (Nat×Nat)} (p:PV d C v l) (h:∀ q:Rl,60≤q.1→d' q=d q∧C' q=C q):PV d' C' v l:=by
 rcases p with p | ⟨q,cap,L,ro,p0,p1,p2,p3,p4⟩
 ·exact .inl p
 ·exact .inr ⟨q,cap,L,ro,p0,by rw[(h q p0).1];exact p1,by rw[(h q p0).2];exact p2,p3,p4⟩
def Kr (d:Rl→Nat) (i:Nat):Value:=if i=0 then .slice none 0 0 else .slice (some ⟨d (41,0),0,none⟩) i (aB+8)
theorem zJ {i:Nat} {f:Nat→Value}:cQ (8*i) f++[f (i*8+0),f (i*8+1),f (i*8+2),f (i*8+3),f (i*8+4),f (i*8+5),f (i*8+6),f (i*8+7)]=cQ (8*(i+1)) f:=by
 unfold cQ
 rw[show 8*(i+1)=8*i+8 by omega,List.range_add,List.map_append]
 congr 1
 simp only[List.map_map,show List.range 8=[0,1,2,3,4,5,6,7] from rfl,List.map_cons,List.map_nil,Function.comp]
 rw[show 8*i=i*8 by omega]
structure Cp (d0:Rl→Nat) (C0:Rl→Option aj) (p:Nat) (s0:e.σ) (ops:Ops) (i:Nat) (d:Rl→Nat) (C:Rl→Option aj):Prop where
 at_:d (40,0)=p
 bA:C (40,0)=row [.pointer none,.pointer none,Kr d i,.slice none 0 0,I6 0,.map none]
 dJ:i≠0→C (41,0)=row (cQ (8*i) (aM ops d (RS.zero s0)))
 ops:∀ t,t<i→ops t≠[]→C (42,t)=row (nZ (ops t))
 ep:∀ a b,a≠40→a≠41→a≠42→d (a,b)=d0 (a,b)∧C (a,b)=C0 (a,b)
theorem j7 {s0:e.σ} (idle:∀ t,e.br s0 t=false∧e.wt s0 t=false∧e.bB s0 t=false) {ops:Ops} {d:Rl→Nat} {t j:Nat}:aZ ops d (RS.zero s0) t j=match j with
  |0=>if ops t=[] then .slice none 0 0 else .slice (some ⟨d (42,t),0,none⟩) (ops t).length (aB+2)
  |1=>I6 0
  |2 => .pointer none
  |3 => .pointer none
  |4=>U8 0
  |5 => .bool false
  |6 => .bool false
  | _=>U6 0:=by
 obtain⟨i1,i2,i3⟩:=idle t
 match j with
 |0=>rfl
 |1=>rfl
 |2=>show (if e.br s0 t=true then _ else _)=_;rw[i1];rfl
 |3=>show (if e.wt s0 t=true then _ else _)=_;rw[i2];rfl
 |4=>rfl
 |5=>rfl
 |6=>show Value.bool (e.bB s0 t)=Value.bool false;rw[i3]
 |j+7=>rfl
theorem Cv {s0:e.σ} (idle:∀ t,e.br s0 t=false∧e.wt s0 t=false∧e.bB s0 t=false) {ops:Ops} {d d':Rl→Nat} {i:Nat} {L:List Value} (hL:L=cQ (8*i) (aM ops d (RS.zero s0))) (hd:∀ t,t<i→d' (42,t)=d (42,t)) {v:Value} (hv:v=if ops i=[] then .slice none 0 0 else .slice (some ⟨d' (42,i),0,none⟩) (ops i).length (aB+2)):L++[v,I6 0,.pointer none,.pointer none,U8 0,.bool false,.bool false,U6 0]=cQ (8*(i+1)) (aM ops d' (RS.zero s0)):=by
 rw[←zJ,hL,hv]
 congr 1
 ·refine jd (Fu fun u j hu hj=>?_)
  rw[aL hj,aL hj,j7 idle,j7 idle,hd u hu]
 ·rw[aL (by omega),aL (by omega),aL (by omega),aL (by omega),aL (by omega),aL (by omega),aL (by omega),aL (by omega)]
  simp only[j7 idle]
theorem Cp.next {s0:e.σ} (idle:∀ t,e.br s0 t=false∧e.wt s0 t=false∧e.bB s0 t=false) {d0 d d2:Rl→Nat} {C0 C C2:Rl→Option aj} {p i:Nat} {ops:Ops} (P:Cp d0 C0 p s0 ops i d C) (L:List Value) (v:Value) (hL:L=cQ (8*i) (aM ops d (RS.zero s0))) (hv:v=if ops i=[] then .slice none 0 0 else .slice (some ⟨d2 (42,i),0,none⟩) (ops i).length (aB+2)) (ho:ops i≠[]→C2 (42,i)=row (nZ (ops i)))
  (hx:∀ s,s≠(40,0)→s≠(41,0)→s≠(42,i)→d2 s=d s∧C2 s=C s) (Cr:d2 (40,0)=d (40,0)) (hm:C2 (40,0)=row [.pointer none,.pointer none,.slice (some ⟨d2 (41,0),0,none⟩) (i+1) (aB+8),.slice none 0 0,I6 0,.map none]) (ht:C2 (41,0)=row (L++[v,I6 0,.pointer none,.pointer none,U8 0,.bool false,.bool false,U6 0])):Cp d0 C0 p s0 ops (i+1) d2 C2:=by
 have h42:∀ t,t<i→d2 (42,t)=d (42,t)∧C2 (42,t)=C (42,t):=fun t h=>hx _ (by simp) (by simp) (by simp;omega)
 refine⟨Cr.trans P.at_,hm,fun _=>?_,fun t h1 h2=>?_,fun a b c1 c2 c3=>?_⟩
 ·rw[ht,Cv idle hL (fun t h=>(h42 t h).1) hv]
 ·by_cases c:t=i
  ·subst c;exact ho h2
  ·exact(h42 t (by omega)).2.trans (P.ops t (by omega) h2)
 ·obtain⟨q1,q2⟩:=hx (a,b) (by simp[c1]) (by simp[c2]) (by simp[c3])
  obtain⟨q3,q4⟩:=P.ep a b c1 c2 c3
  exact⟨q1.trans q3,q2.trans q4⟩
set_option maxRecDepth 100000 in
set_option maxHeartbeats 8000000 in
theorem FG {aO:e.σ→Nat→Nat→Prop} {guard fresh:e.σ→Nat→Nat→Prop} {ns kd nb nw:Nat} {s0:e.σ} (cq:0<ns∧ns≤64) (F:gp e x ns rep) (G:e.fq ns aO guard) (Fe:e.gC ns aO guard fresh) (je:∀ {s k d C},rep s k d C→∃ x z,C (4,0)=row [x,U8 kd,z]) {xp:Nat} (ve:xp=if kd=3 then 16 else 13) (B:Start e ns rep kd nb nw s0) {h:PT aj} {n:Nat} {d:Rl→Nat} {C:Rl→Option aj} {ops:Ops} {ps:Value} (ok:kW ops ns) (S:St h n d C) (P:FF d C ps ops ns) (hsc:C (20,0)=none):
  b9 Tryz.prog OP 15 [U8 kd,I6 nb,ps] h n fun v h' n'=>∃ d' C',v=dY [pt (d' (40,0)),I6 0]∧St h' n' d' C'∧bP rep ops ns (aM ops d' (RS.eK ops xp (RS.zero s0) ns)) (RS.eK ops xp (RS.zero s0) ns) [] d' C'∧∀ a b,60≤a→d' (a,b)=d (a,b)∧C' (a,b)=C (a,b):=by
 subst ve
 obtain⟨cap,vs,ro,rfl,V8,hvl,hvs⟩:=P.out
 have OX:=S.at V8
 have V9:=S.lt V8
 have t1: ¬ (ns:Int)<1:=by omega
 have t2: ¬ (64:Int)<ns:=by omega
 obtain⟨ns1,ns2⟩:=cq
 refine aC (N:=112) Tryz.func15 rfl rfl fun z hP hO hro hN hQ=>?_
 repeat' first |simp(disch:=first |omega |assumption) only[go_sem, *] | (apply xs<;>intro _)<;>try omega
 refine eJ (B.ML S) (by simp only[*]) (by simp only[*]) (by simp only[go_sem, *]) (by simp only[go_sem, *]) ?_
 rintro rr h1 n1 ⟨rfl,S1⟩
 clear OX
 repeat' first |simp(disch:=first |omega |assumption) only[go_sem, *] | (apply xs<;>intro _)<;>try omega
 have S2:=S1.new (40,0) (.cells (PT.ofList .leaf 0 [.pointer none,.pointer none,.slice none 0 0,.slice none 0 0,I6 0,.map none]) false) bG bH
 have hc0:Cp d C n1 s0 ops 0 (upd d (40,0) n1) (upd C (40,0) (row [.pointer none,.pointer none,.slice none 0 0,.slice none 0 0,I6 0,.map none])):=⟨rR,rS,fun c=>absurd rfl c,fun t ht=>absurd ht (by omega),fun a b c1 c2 c3=>⟨rR,rR⟩⟩
 refine dG (fun t m h' n'=>∃ i:Nat,i≤ns∧t=ns-i∧m.n=112∧m.gD=[]∧m.get 0=U8 kd∧m.get 1=I6 nb∧m.get 2 = .slice (some ⟨d (60,0),0,none⟩) ns cap∧m.get 8=I6 nw∧m.get 10=pt n1∧m.get 35 = .slice (some ⟨d (60,0),0,none⟩) ns cap∧m.get 36=I6 ns∧m.get 37=I6 i∧∃ d' C',St h' n' d' C'∧Cp d C n1 s0 ops i d' C') ns ?_ ?_
 ·refine⟨0,by omega,by omega,?_⟩
  simp(disch:=first |omega |assumption) only[go_sem, *]
  exact⟨_,_,S2,hc0⟩
 ·clear hc0 S2 S1
  rintro t m h' n' ih ⟨i,hi,rfl,m1,m2,m3,m4,m5,m6,m7,m8,m9,Zj,d',C',S3,P3⟩
  rcases Nat.lt_or_ge i ns with hlt |hge
  ·have e7:(i:Int)<ns:=by omega
   have qt:((i+1:Nat):Int)=(i:Int)+1:=by omega
   obtain⟨v,hv,pv⟩:=hvs i hlt
   have pv:=pv.of fun q hq=>P3.ep q.1 q.2 (by omega) (by omega) (by omega)
   have OX:=S3.at ((P3.ep 60 0 (by omega) (by omega) (by omega)).2.trans V8)
   rw[(P3.ep 60 0 (by omega) (by omega) (by omega)).1] at OX
   have dQ:=S3.at P3.bA
   have uc:=S3.lt P3.bA
   rw[P3.at_] at dQ uc
   have hle:(ops i).length≤30:=(ok i hlt).1
   rcases pv with ⟨rfl,h0⟩ | ⟨pq,cp,L,OI,hpq,rfl,tA,hL1,V0⟩
   ·by_cases c0:i=0
    ·subst c0
     have e0:Kr d' 0 = .slice none 0 0:=rfl
     rw[e0] at dQ
     repeat' first |simp(disch:=first |omega |assumption) only[go_sem, *] | (apply xs<;>intro _)<;>try omega | ((with_reducible refine bR 12 ?_);refine dz 112 12 w15_12 ?_)
     refine ih (ns-(0+1)) _ _ _ (by omega) ⟨0+1,by omega,rfl,?_⟩
     clear ih
     simp(disch:=first |omega |assumption) only[go_sem, *]
     refine⟨_,_,((S3.junk bG bH).new (41,0) _ bG bH).set (40,0) _ (rE P3.bA) (rE P3.at_),?_⟩
     refine Cp.next B.idle P3 ([]) (.slice none 0 0) rfl (if_pos h0).symm (fun c=>absurd h0 c) (fun s h1 h2 h3=>⟨by simp only[ay h1,ay h2,ay h3],by simp only[ay h1,ay h2,ay h3]⟩) rR rS rS
    ·have e0:Kr d' i = .slice (some ⟨d' (41,0),0,none⟩) i (aB+8):=if_neg c0
     rw[e0] at dQ
     have qR:=S3.at (P3.dJ c0)
     have Aw:=S3.lt (P3.dJ c0)
     have w1:=S3.df P3.bA (P3.dJ c0) (by simp)
     rw[P3.at_] at w1
     have hrl:(cQ (8*i) (aM ops d' (RS.zero s0))).length=i*8:=by rw[eo];omega
     have tZ:List.take (i*8) (cQ (8*i) (aM ops d' (RS.zero s0)))=cQ (8*i) (aM ops d' (RS.zero s0)):=List.take_of_length_le (by omega)
     have i0:0<i:=by omega
     generalize hR:cQ (8*i) (aM ops d' (RS.zero s0))=R at*
     repeat' first |simp(disch:=first |omega |assumption) only[go_sem, *] | (apply xs<;>intro _)<;>try omega | ((with_reducible refine bR 12 ?_);refine dz 112 12 w15_12 ?_)
     refine ih (ns-(i+1)) _ _ _ (by omega) ⟨i+1,by omega,rfl,?_⟩
     rw[qt]
     clear ih
     simp(disch:=first |omega |assumption) only[go_sem, *]
     refine⟨_,_,(((S3.junk bG bH).kill (41,0) (P3.dJ c0) rfl).new (41,0) _ bG bH).set (40,0) _ (rE P3.bA) (rE P3.at_),?_⟩
     refine Cp.next B.idle P3 (R) (.slice none 0 0) hR.symm (if_pos h0).symm (fun c=>absurd h0 c) (fun s h1 h2 h3=>⟨by simp only[ay h1,ay h2,ay h3],by simp only[ay h1,ay h2,ay h3]⟩) rR rS rS
   ·by_cases h0:ops i=[]
    ·by_cases c0:i=0
     ·subst c0
      have e0:Kr d' 0 = .slice none 0 0:=rfl
      rw[e0] at dQ
      have I4:=S3.at tA
      have Zk:=S3.lt tA
      have w2:=S3.df P3.bA tA (fun c=>by have q:=congrArg Prod.fst c;simp only at q;omega)
      rw[P3.at_] at w2
      have vF:(ops 0).length=0:=by rw[h0];rfl
      repeat' first |simp(disch:=first |omega |assumption) only[go_sem, *] | (apply xs<;>intro _)<;>try omega | ((with_reducible refine bR 12 ?_);refine dz 112 12 w15_12 ?_)
      refine ih (ns-(0+1)) _ _ _ (by omega) ⟨0+1,by omega,rfl,?_⟩
      clear ih
      simp(disch:=first |omega |assumption) only[go_sem, *]
      refine⟨_,_,((S3.junk bG bH).new (41,0) _ bG bH).set (40,0) _ (rE P3.bA) (rE P3.at_),?_⟩
      refine Cp.next B.idle P3 ([]) (.slice none 0 0) rfl (if_pos h0).symm (fun c=>absurd h0 c) (fun s h1 h2 h3=>⟨by simp only[ay h1,ay h2,ay h3],by simp only[ay h1,ay h2,ay h3]⟩) rR rS rS
     ·have e0:Kr d' i = .slice (some ⟨d' (41,0),0,none⟩) i (aB+8):=if_neg c0
      rw[e0] at dQ
      have qR:=S3.at (P3.dJ c0)
      have Aw:=S3.lt (P3.dJ c0)
      have w1:=S3.df P3.bA (P3.dJ c0) (by simp)
      rw[P3.at_] at w1
      have hrl:(cQ (8*i) (aM ops d' (RS.zero s0))).length=i*8:=by rw[eo];omega
      have tZ:List.take (i*8) (cQ (8*i) (aM ops d' (RS.zero s0)))=cQ (8*i) (aM ops d' (RS.zero s0)):=List.take_of_length_le (by omega)
      have i0:0<i:=by omega
      generalize hR:cQ (8*i) (aM ops d' (RS.zero s0))=R at*
      have I4:=S3.at tA
      have Zk:=S3.lt tA
      have w2:=S3.df P3.bA tA (fun c=>by have q:=congrArg Prod.fst c;simp only at q;omega)
      rw[P3.at_] at w2
      have w3:=S3.df (P3.dJ c0) tA (fun c=>by have q:=congrArg Prod.fst c;simp only at q;omega)
      have vF:(ops i).length=0:=by rw[h0];rfl
      repeat' first |simp(disch:=first |omega |assumption) only[go_sem, *] | (apply xs<;>intro _)<;>try omega | ((with_reducible refine bR 12 ?_);refine dz 112 12 w15_12 ?_)
      refine ih (ns-(i+1)) _ _ _ (by omega) ⟨i+1,by omega,rfl,?_⟩
      rw[qt]
      clear ih
      simp(disch:=first |omega |assumption) only[go_sem, *]
      refine⟨_,_,(((S3.junk bG bH).kill (41,0) (P3.dJ c0) rfl).new (41,0) _ bG bH).set (40,0) _ (rE P3.bA) (rE P3.at_),?_⟩
      refine Cp.next B.idle P3 (R) (.slice none 0 0) hR.symm (if_pos h0).symm (fun c=>absurd h0 c) (fun s h1 h2 h3=>⟨by simp only[ay h1,ay h2,ay h3],by simp only[ay h1,ay h2,ay h3]⟩) rR rS rS
    ·by_cases c0:i=0
     ·subst c0
      have e0:Kr d' 0 = .slice none 0 0:=rfl
      rw[e0] at dQ
      have I4:=S3.at tA
      have Zk:=S3.lt tA
      have w2:=S3.df P3.bA tA (fun c=>by have q:=congrArg Prod.fst c;simp only at q;omega)
      rw[P3.at_] at w2
      have vF:0<(ops 0).length:=List.length_pos_iff.2 h0
      have OY:=cO (ops 0)
      generalize hq:(ops 0).length=q at*
      repeat' first |simp(disch:=first |omega |assumption) only[go_sem, *] | (apply xs<;>intro _)<;>try omega | ((with_reducible refine bR 12 ?_);refine dz 112 12 w15_12 ?_)
      refine ih (ns-(0+1)) _ _ _ (by omega) ⟨0+1,by omega,rfl,?_⟩
      clear ih
      simp(disch:=first |omega |assumption) only[go_sem, *]
      refine⟨_,_,(((S3.new (42,0) _ bG bH).junk bG bH).new (41,0) _ bG bH).set (40,0) _ (rE P3.bA) (rE P3.at_),?_⟩
      refine Cp.next B.idle P3 ([]) (.slice (some ⟨n',0,none⟩) q (aB+2)) rfl (by rw[if_neg h0,hq];(simp(disch:=first |decide |assumption |omega) only[rM,rW,rL,ah,au,aR,aG])<;>rfl) (fun _=>rS) (fun s h1 h2 h3=>⟨by simp only[ay h1,ay h2,ay h3],by simp only[ay h1,ay h2,ay h3]⟩) rR rS rS
     ·have e0:Kr d' i = .slice (some ⟨d' (41,0),0,none⟩) i (aB+8):=if_neg c0
      rw[e0] at dQ
      have qR:=S3.at (P3.dJ c0)
      have Aw:=S3.lt (P3.dJ c0)
      have w1:=S3.df P3.bA (P3.dJ c0) (by simp)
      rw[P3.at_] at w1
      have hrl:(cQ (8*i) (aM ops d' (RS.zero s0))).length=i*8:=by rw[eo];omega
      have tZ:List.take (i*8) (cQ (8*i) (aM ops d' (RS.zero s0)))=cQ (8*i) (aM ops d' (RS.zero s0)):=List.take_of_length_le (by omega)
      have i0:0<i:=by omega
      generalize hR:cQ (8*i) (aM ops d' (RS.zero s0))=R at*
      have I4:=S3.at tA
      have Zk:=S3.lt tA
      have w2:=S3.df P3.bA tA (fun c=>by have q:=congrArg Prod.fst c;simp only at q;omega)
      rw[P3.at_] at w2
      have w3:=S3.df (P3.dJ c0) tA (fun c=>by have q:=congrArg Prod.fst c;simp only at q;omega)
      have vF:0<(ops i).length:=List.length_pos_iff.2 h0
      have OY:=cO (ops i)
      generalize hq:(ops i).length=q at*
      repeat' first |simp(disch:=first |omega |assumption) only[go_sem, *] | (apply xs<;>intro _)<;>try omega | ((with_reducible refine bR 12 ?_);refine dz 112 12 w15_12 ?_)
      refine ih (ns-(i+1)) _ _ _ (by omega) ⟨i+1,by omega,rfl,?_⟩
      rw[qt]
      clear ih
      simp(disch:=first |omega |assumption) only[go_sem, *]
      refine⟨_,_,((((S3.new (42,i) _ bG bH).junk bG bH).kill (41,0) (by simp(disch:=first |decide |assumption |omega) only[rM,rW,rL,ah,au,aR,aG];exact P3.dJ c0) rR).new (41,0) _ bG bH).set (40,0) _ (rE P3.bA) (rE P3.at_),?_⟩
      refine Cp.next B.idle P3 (R) (.slice (some ⟨n',0,none⟩) q (aB+2)) hR.symm (by rw[if_neg h0,hq];(simp(disch:=first |decide |assumption |omega) only[rM,rW,rL,ah,au,aR,aG])<;>rfl) (fun _=>rS) (fun s h1 h2 h3=>⟨by simp only[ay h1,ay h2,ay h3],by simp only[ay h1,ay h2,ay h3]⟩) rR rS rS
  ·obtain rfl:i=ns:=by omega
   have e0:Kr d' i = .slice (some ⟨d' (41,0),0,none⟩) i (aB+8):=if_neg (by omega)
   have dQ:=S3.at P3.bA
   have uc:=S3.lt P3.bA
   rw[P3.at_] at dQ uc
   rw[e0] at dQ
   have hz:=u7 nw
   obtain⟨w1,w2⟩:=B.wpos
   have OQ:Nat.ble nw 1048576=true:=Nat.ble_eq_true_of_le (by omega)
   have q:=I3 (b:=n') (cap:=nw) (W:=nl nw fun _=>0) (ro:=false) (S3.junk (B:=some (.cells (PT.ofList .leaf 0 ((nl nw fun _=>0).map (.int .u64))) false)) (Nat.le_refl _) (Nat.lt_succ_self n')) cG (by rw[aV];omega) (by rw[aV];omega)
   rw[aV] at q
   clear ih
   repeat' first |simp(disch:=first |omega |assumption) only[go_sem, *] | (apply xs<;>intro _)<;>try omega
   refine eJ (q) (by simp only[*]) (by simp only[*]) (by simp only[go_sem, *]) (by simp only[go_sem, *]) ?_
   rintro r h2 n2 ⟨d1,C1,rfl,S4,M1,k1⟩
   clear q hz dQ
   have dQ:=S4.at ((k1 40 0 (by omega)).2.trans P3.bA)
   have uc:=S4.lt ((k1 40 0 (by omega)).2.trans P3.bA)
   rw[(k1 40 0 (by omega)).1,P3.at_] at dQ uc
   rw[e0] at dQ
   repeat' first |simp(disch:=first |omega |assumption) only[go_sem, *] | (apply xs<;>intro _)<;>try omega
   have S5:=S4.set (40,0) (i:=n1) (.cells (PT.ofList .leaf 0 [pt (d1 rM),.pointer none,.slice (some ⟨d' (41,0),0,none⟩) i (aB+8),.slice none 0 0,I6 0,.map none]) false) ((k1 40 0 (by omega)).2.trans P3.bA) ((k1 40 0 (by omega)).1.trans P3.at_)
   have sc1:upd C1 (40,0) (row [pt (d1 rM),.pointer none,.slice (some ⟨d' (41,0),0,none⟩) i (aB+8),.slice none 0 0,I6 0,.map none]) (20,0)=none:=by simp(disch:=first |decide |assumption |omega) only[rM,rW,rL,ah,au,aR,aG];exact(k1 20 0 (by omega)).2.trans ((P3.ep 20 0 (by omega) (by omega) (by omega)).2.trans hsc)
   refine eJ (B.Zi S5 (M1.dR (by omega)) sc1) (by simp only[*]) (by simp only[*]) (by simp only[go_sem, *]) (by simp only[go_sem, *]) ?_
   rintro r h3 n3 ⟨d2,C2,rfl,S6,R6,k2m,k2⟩
   have dQ:=S6.at ((k2 40 0 (by omega)).2.trans ah)
   have uc:=S6.lt ((k2 40 0 (by omega)).2.trans ah)
   rw[(k2 40 0 (by omega)).1,(k1 40 0 (by omega)).1,P3.at_] at dQ uc
   clear S5
   repeat' first |simp(disch:=first |omega |assumption) only[go_sem, *] | (apply xs<;>intro _)<;>try omega
   have S7:=(((((S6.set (40,0) (i:=n1) (.cells (PT.ofList .leaf 0 [pt (d1 rM),pt (d2 (4,0)),.slice (some ⟨d' (41,0),0,none⟩) i (aB+8),.slice none 0 0,I6 0,.map none]) false) ((k2 40 0 (by omega)).2.trans ah) ((k2 40 0 (by omega)).1.trans ((k1 40 0 (by omega)).1.trans P3.at_))).new (44,0) (.map [] 0) bG bH).set (44,0) (.map [(.int .u8 1,.func (.func 33) ⟨[pt n1]⟩ ⟨[]⟩,0)] 1) ah ah).set (44,0) (.map [(.int .u8 1,.func (.func 33) ⟨[pt n1]⟩ ⟨[]⟩,0),(.int .u8 2,.func (.func 34) ⟨[pt n1]⟩ ⟨[]⟩,1)] 2) ah ah).set (44,0) (.map (gZ .u8 (l5 n1)) 3) ah ah).set (40,0) (i:=n1) (.cells (PT.ofList .leaf 0 [pt (d1 rM),pt (d2 (4,0)),.slice (some ⟨d' (41,0),0,none⟩) i (aB+8),.slice none 0 0,I6 0,.map (some n3)]) false) rS (by simp(disch:=first |decide |assumption |omega) only[rM,rW,rL,ah,au,aR,aG];exact(k2 40 0 (by omega)).1.trans ((k1 40 0 (by omega)).1.trans P3.at_))
   have R7:=F.bC (a:=40) (b:=0) (B:=row [pt (d1 rM),pt (d2 (4,0)),.slice (some ⟨d' (41,0),0,none⟩) i (aB+8),.slice none 0 0,I6 0,.map (some n3)]) (F.bC (a:=44) (b:=0) (B:=some (.map (gZ .u8 (l5 n1)) 3)) (F.bC (a:=44) (b:=0) (B:=some (.map [(.int .u8 1,.func (.func 33) ⟨[pt n1]⟩ ⟨[]⟩,0),(.int .u8 2,.func (.func 34) ⟨[pt n1]⟩ ⟨[]⟩,1)] 2)) (F.bC (a:=44) (b:=0) (B:=some (.map [(.int .u8 1,.func (.func 33) ⟨[pt n1]⟩ ⟨[]⟩,0)] 1)) (F.bC (a:=44) (b:=0) (B:=some (.map [] 0)) (F.B3 (a:=44) (b:=0) (i:=n3) (F.bC (a:=40) (b:=0) (B:=row [pt (d1 rM),pt (d2 (4,0)),.slice (some ⟨d' (41,0),0,none⟩) i (aB+8),.slice none 0 0,I6 0,.map none]) R6 (by omega)) (by omega)) (by omega)) (by omega)) (by omega)) (by omega)) (by omega)
   obtain⟨d7,Sf⟩:∃ d7,d7=upd d2 (44,0) n3:=⟨_,rfl⟩
   rw[←Sf] at S7 R7
   have pX:∀ a b,a=4∨30≤a→a≠44→d7 (a,b)=d2 (a,b):=fun a b _ c=>by rw[Sf,au (by omega)]
   have h44:d7 (44,0)=n3:=by rw[Sf,ah]
   have h7M:d7 rM=d1 rM:=by rw[Sf];exact(au (by decide)).trans k2m
   have OZ:∀ a b,30≤a→a≠44→d7 (a,b)=d' (a,b):=fun a b c1 c2=>(pX a b (.inr c1) c2).trans ((k2 a b c1).1.trans (k1 a b (by omega)).1)
   have V_:∀ a b,30≤a→a≠40→C2 (a,b)=C' (a,b):=fun a b c1 c2=>(k2 a b c1).2.trans ((au c2).trans (k1 a b (by omega)).2)
   have My:cQ (8*i) (aM ops d' (RS.zero s0))=cQ (8*i) (aM ops d7 (RS.zero s0)):=jd (Fu fun u j hu hj=>by rw[aL hj,aL hj,j7 B.idle,j7 B.idle,OZ 42 u (by omega) (by omega)])
   have Z:bP rep ops i (aM ops d7 (RS.zero s0)) (RS.zero s0) [] d7 _:=⟨R7,by
     refine ah.trans ?_
     unfold cS Av
     rw[h7M,pX 4 0 (.inl rfl) (by omega),OZ 41 0 (by omega) (by omega),h44];rfl,by
     simp(disch:=first |decide |assumption |omega) only[rM,rW,rL,ah,au,aR,aG]
     rw[V_ 41 0 (by omega) (by omega),P3.dJ (by omega),My],fun t ht hne=>by
     simp(disch:=first |decide |assumption |omega) only[rM,rW,rL,ah,au,aR,aG]
     rw[V_ 42 t (by omega) (by omega)];exact P3.ops t ht hne,fun c=>absurd rfl c,by
     simp(disch:=first |decide |assumption |omega) only[rM,rW,rL,ah,au,aR,aG]
     rw[OZ 40 0 (by omega) (by omega),P3.at_]⟩
   have hall:∀ a b,60≤a→d7 (a,b)=d (a,b)∧C2 (a,b)=C (a,b):=fun a b c=>⟨(OZ a b (by omega) (by omega)).trans (P3.ep a b (by omega) (by omega) (by omega)).1,(V_ a b (by omega) (by omega)).trans (P3.ep a b (by omega) (by omega) (by omega)).2⟩
   have Cr:d7 (40,0)=n1:=(OZ 40 0 (by omega) (by omega)).trans P3.at_
   generalize hC7:upd (upd _ (44,0) _) (40,0) _=C7 at S7 Z
   have Ks:∀ a b,60≤a→d7 (a,b)=d (a,b)∧C7 (a,b)=C (a,b):=fun a b c=>⟨(hall a b c).1,by rw[←hC7];simp(disch:=first |decide |assumption |omega) only[rM,rW,rL,ah,au,aR,aG];exact(hall a b c).2⟩
   clear hC7 R7 hall V_ OZ h7M h44 pX Sf
   clear dQ P3 S3 S4 S6 M1 hvs hvl V8 V9 P S R6 sc1 k1 k2
   refine dG (fun t m h' n'=>∃ j:Nat,j≤i∧t=i-j∧m.n=112∧m.gD=[]∧m.get 10=pt n1∧m.get 103=I6 i∧m.get 104=I6 j∧∃ d' C',St h' n' d' C'∧d' (40,0)=n1∧bP rep ops i (aM ops d' (RS.eK ops (if kd=3 then 16 else 13) (RS.zero s0) j)) (RS.eK ops (if kd=3 then 16 else 13) (RS.zero s0) j) [] d' C'∧∀ a b,60≤a→d' (a,b)=d (a,b)∧C' (a,b)=C (a,b)) i ?_ ?_
   ·refine⟨0,by omega,by omega,?_⟩
    simp(disch:=first |omega |assumption) only[go_sem, *]
    exact⟨d7,C7,S7,Cr,Z,Ks⟩
   ·clear S7 Z Ks Cr m1 m2 m3 m4 m5 m6 m7 m8 m9 Zj
    rintro t m h' n' ih ⟨j,hj,rfl,m1,m2,m3,m4,m5,d',C',S3,Cr,Z,hall⟩
    obtain⟨I,q1,q2,q3,q4,q5⟩:=gu G Fe B.idle (ops:=ops) (xp:=if kd=3 then 16 else 13) j
    rcases Nat.lt_or_ge j i with hlt |hge
    ·have e7:(j:Int)<i:=by omega
     have qt:((j+1:Nat):Int)=(j:Int)+1:=by omega
     have en:=Kl ⟨ns1,ns2⟩ F G.fits je rfl ok S3 Z (t:=j) ⟨fun u k hu _ hk=>aL hk,fun k hk _ _ _=>aL hk⟩ hlt (q1 j (Nat.le_refl _)).1 (q1 j (Nat.le_refl _)).2 (by rw[q3];exact Nat.zero_le _) (Nat.zero_le _)
     rw[Cr] at en
     clear I q1 q2 q3 q4 q5
     repeat' first |simp(disch:=first |omega |assumption) only[go_sem, *] | (apply xs<;>intro _)<;>try omega
     refine eJ (en) (by simp only[*]) (by simp only[*]) (by simp only[go_sem, *]) (by simp only[go_sem, *]) ?_
     rintro r h4 n4 ⟨rfl,d4,C4,S4,R4,X4⟩
     clear en
     repeat' first |simp(disch:=first |omega |assumption) only[go_sem, *] | (apply xs<;>intro _)<;>try omega
     refine ih (i-(j+1)) _ _ _ (by omega) ⟨j+1,by omega,rfl,?_⟩
     rw[qt]
     clear ih
     simp(disch:=first |omega |assumption) only[go_sem, *]
     exact⟨d4,C4,S4,X4.m.trans Cr,R4,fun a b c=>⟨(X4.x a b c).1.trans (hall a b c).1,(X4.x a b c).2.trans (hall a b c).2⟩⟩
    ·obtain rfl:j=i:=by omega
     clear ih I q1 q2 q3 q4 q5
     repeat' first |simp(disch:=first |omega |assumption) only[go_sem, *] | (apply xs<;>intro _)<;>try omega
     exact⟨d',C',by rw[Cr],S3,Z,hall⟩
end Go.Proofs.YtbceiadaihphaaaGreat
